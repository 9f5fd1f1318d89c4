/- The program's numbers: Div. No condition. -/
import Derived.Test.YtfhhgndppfpngaaRsa15
set_option linter.unusedSimpArgs false
set_option linter.unusedVariables false
set_option linter.unusedSimpArgs false
set_option linter.unusedVariables false
namespace Go.Proofs
open Go.Ev Go.Mx
theorem rs_lv63 : rsC.lv 63 = [true, false, true, false, false, false] := by kernel_rfl
theorem rs_lv61 : rsC.lv 61 = [true, false, true, false, true, false, false, false] := by kernel_rfl
theorem rs_lv57 : rsC.lv 57 = [true, true, false, false, true, true, true, true, true, true, true, true, true, true, false, false, false, true, false, false, false, false, false, false, true, false, false, false, false, false, false, false, false, false, false, false, false, false, false, false, false, false, false, false, false, false, false, false, false, false, false, false, false, false, false, false, false, false, false, false, false, false, false, true, false, false, false, false, false, false, false, false, false, false, false, false, false, false, false, false, true, false, false, false, false, false, false, false, false, false, false, false, false, false, false, false, false, false, false] := by kernel_rfl
set_option maxRecDepth 100000 in
set_option maxHeartbeats 4000000 in
theorem rs_lz32 (x : Nat) (hx : x < LB) : WP rsC 63 [.int .u32 (x : Int)] = some (.int .i64 ((32 - bl x : Nat) : Int)) := by
  have h := rs_len32 x hx
  have hb32 : bl x ≤ 32 := bl_le hx
  generalize bl x = y at *
  have hw : IntKind.i64.wrap (32 - (y : Int)) = ((32 - y : Nat) : Int) := by rw [wrap_i64 (by omega) (by omega)]; omega
  obtain ⟨z, hz⟩ : ∃ z, z = 32 - y := ⟨_, rfl⟩
  rw [← hz] at hw ⊢
  rw [WP_eq (show rsC.md 63 < 9 by decide) Try.func63 rfl]
  rw [show Try.f63.ntmps = 6 from rfl, rs_lv63]
  simp only [N32, List.map_cons, List.map_nil, List.length_cons, List.length_nil, Nat.reduceAdd, Nat.reduceSub, List.replicate, List.cons_append, List.nil_append]
  simp only [seqT, thn_normal, thn_ret, thn_exit, WC_region, WC_cond, WC_exit, WC_skip, WC_block, WC_ret, evRegion, Bool.false_eq_true, if_false, if_true, reduceIte, ops_n, ops_c, evStep, wantedA, evOp, opv, putA, ret1, ofVal, ofVal1, cellsOf, AV.isCell, clean, evFieldAddr, evField, evExtract, evBuild, evIndex, evBuiltin, evBuildSlice, evNilCheck, blkRead, mkAgg, mkTup, mapO, AV.pure?, setAt, afill, parts, calleeOf, tell, scalar, scalarL, norm, normL, ids, Go.Ev.mark, evResults, evResult, aggCells, partA, List.getElem?_cons_zero, List.getElem?_cons_succ, List.getElem?_nil, List.map_cons, List.map_nil, List.all_cons, List.all_nil, Bool.and_true, Bool.true_and, Bool.and_false, Bool.false_and, Bool.and_self, Bool.not_true, Bool.not_false, Bool.or_true, Bool.or_false, Bool.false_or, Bool.true_or, List.set, List.length_cons, List.length_nil, List.nil_append, List.cons_append, List.append_nil, Nat.reduceAdd, Nat.reduceSub, Nat.reduceMul, Nat.reduceLeDiff, Nat.zero_add, Nat.reduceEqDiff, List.replicate, List.drop, List.take, List.flatMap_cons, List.flatMap_nil, List.foldl_nil, List.foldl_cons, decide_true, decide_false, and_self, and_true, true_and, BEq.rfl, beq_self_eq_true, Option.map_some, Option.map_none, Option.bind_some, Option.bind_none, List.getElem?_toArray, Option.isSome_some, Option.isSome_none, beqs, ne_eq, not_true_eq_false, not_false_eq_true, false_or, or_false, or_self, Nat.reduceLT, false_and, and_false, List.nil_append, evEq, eqc, optO, b_add, b_sub, b_mul, b_eql, b_neq, b_lss, b_leq, b_gtr, b_geq, u_not, flags0, flags1, rs_P, evCall_tab (show ∀ f xs, rsC.O f xs = none from fun _ _ => rfl), normN, frz_p, ids_p, foldN, ite_self, h, hw, show rsC.md 39 = 0 from rfl, show Try.f63.results = #[.tmp 2] from rfl]
set_option maxRecDepth 100000 in
set_option maxHeartbeats 4000000 in
theorem rs_clone (a : List Nat) (ha : a ≠ []) (hal : a.length ≤ 100000) : W rsC 61 [.p (.sl a.length false (a.map pu))] [] = some (.ms 0 0 0 a.length 1, [⟨0, false, lb a⟩]) := by
  have happ := rs_app a ha hal
  have hn : a.length ≠ 0 := by simpa using ha
  have hbs : evBuildSlice Try.prog false 24 0 [] [] = some (.p (.sl 0 true []), []) := by kernel_rfl
  have heq : ∀ z, evBin Try.prog .eql 24 (.p (.sl a.length false (a.map pu))) (.p (.nsl z)) = if z then some (.p (.bool false)) else none := by
    intro z
    cases z <;> simp [evBin, evEq, Try.underlying24, hn]
  rw [W_fin (show rsC.md 61 < 9 by decide) Try.func61 rfl]
  rw [show Try.f61.ntmps = 8 from rfl, rs_lv61]
  simp only [N32, List.map_cons, List.map_nil, List.length_cons, List.length_nil, Nat.reduceAdd, Nat.reduceSub, List.replicate, List.cons_append, List.nil_append]
  simp only [seqT, thn_normal, thn_ret, thn_exit, WC_region, WC_cond, WC_exit, WC_skip, WC_block, WC_ret, evRegion, Bool.false_eq_true, if_false, if_true, reduceIte, ops_n, ops_c, evStep, wantedA, evOp, opv, putA, ret1, ofVal, ofVal1, cellsOf, AV.isCell, clean, evFieldAddr, evField, evExtract, evBuild, evIndex, evBuiltin, evNilCheck, blkRead, mkAgg, mkTup, mapO, AV.pure?, setAt, afill, parts, calleeOf, tell, scalar, scalarL, norm, normL, ids, Go.Ev.mark, evResults, evResult, aggCells, partA, List.getElem?_cons_zero, List.getElem?_cons_succ, List.getElem?_nil, List.map_cons, List.map_nil, List.all_cons, List.all_nil, Bool.and_true, Bool.true_and, Bool.and_false, Bool.false_and, Bool.and_self, Bool.not_true, Bool.not_false, Bool.or_true, Bool.or_false, Bool.false_or, Bool.true_or, List.set, List.length_cons, List.length_nil, List.nil_append, List.cons_append, List.append_nil, Nat.reduceAdd, Nat.reduceSub, Nat.reduceMul, Nat.reduceLeDiff, Nat.zero_add, Nat.reduceEqDiff, List.replicate, List.drop, List.take, List.flatMap_cons, List.flatMap_nil, List.foldl_nil, List.foldl_cons, decide_true, decide_false, and_self, and_true, true_and, BEq.rfl, beq_self_eq_true, Option.map_some, Option.map_none, Option.bind_some, Option.bind_none, List.getElem?_toArray, Option.isSome_some, Option.isSome_none, beqs, ne_eq, not_true_eq_false, not_false_eq_true, false_or, or_false, or_self, Nat.reduceLT, false_and, and_false, List.nil_append, evEq, eqc, optO, b_add, b_sub, b_mul, b_eql, b_neq, b_lss, b_leq, b_gtr, b_geq, u_not, flags0, flags1, rs_P, heq, hbs, happ, fin, show Try.f61.results = #[.tmp 2] from rfl]
theorem rs_clone_call (a : List Nat) (hal : a.length ≤ 100000) (st : Bool) (H : List ABlk) : ∃ z, evCall rsC (W rsC) st 61 [.p (.sl a.length false (a.map pu))] H = some (.p (.sl a.length z (a.map pu)), H) := by
  by_cases h0 : a = []
  · subst h0
    refine ⟨true, ?_⟩
    have h1 : W rsC 61 [.p (.nsl true)] [] = some (.p (.nsl true), []) := W_of_evF 20 (by kernel_rfl)
    have h2 : W rsC 61 [.p (.nsl false)] [] = some (.p (.sl 0 true []), []) := W_of_evF 20 (by kernel_rfl)
    unfold evCall
    simp [show rsC.md 61 = 4 from rfl, mapO, frz_p, norm, normL, show ∀ f xs, rsC.O f xs = none from fun _ _ => rfl, empty1, h1, h2, isE0, tell, scalar]
  · refine ⟨false, ?_⟩
    have hw := rs_clone a h0 hal
    have hfz := frzD (H := [⟨0, false, lb a⟩]) (d := 5) (id := 0) (ver := 0) (off := 0) (k := a.length) (fz := false) (o := a) rfl (by omega)
    rw [List.drop_zero, List.take_of_length_le (Nat.le_refl _)] at hfz
    have he : empty1 [.sl a.length false (a.map pu)] = false := by
      cases a with
      | nil => exact absurd rfl h0
      | cons x l => rfl
    have hsc : scalar (.sl a.length false (a.map pu)) = false := by
      cases a with
      | nil => exact absurd rfl h0
      | cons x l => rfl
    unfold evCall
    rw [if_neg (by decide), if_neg (by decide)]
    simp only [mapO, frz_p, norm, normN, show ∀ f xs, rsC.O f xs = none from fun _ _ => rfl, he, List.map_cons, List.map_nil, hw]
    rw [if_neg (by simp), if_neg (by decide)]
    rw [show deep = 5 + 1 from rfl, hfz]
    simp only [tell, hsc, Option.isSome_some, Bool.or_true, if_true, List.flatMap_cons, List.flatMap_nil, ids_p, List.append_nil]
    cases st <;> rfl
set_option maxRecDepth 100000 in
set_option maxHeartbeats 4000000 in
theorem rs_ndiv_low (a b : List Nat) (ha : Canon a) (hb : Canon b) (m : Nat) (hbl : b.length = m + 2) (hal : a.length ≤ 90000) (hb9 : b.length ≤ 90000) (hlt : val a < val b) : WP rsC 57 [N32 a, N32 b] = some (.tup [N32 [], N32 a, .bool true]) := by
  have hcmp := rs_ncmp a b ha.limbs hb.limbs (by omega) (by omega)
  obtain ⟨z, hz⟩ : ∃ z : Int, z = (if a.length = b.length then cmpN (val a) (val b) else if a.length < b.length then -1 else 1) := ⟨_, rfl⟩
  rw [← hz] at hcmp
  have hzn : decide (z < 0) = true := by
    rw [hz]
    by_cases h1 : a.length = b.length
    · rw [if_pos h1]; unfold cmpN; rw [if_pos hlt]; rfl
    · rw [if_neg h1]
      rcases Nat.lt_or_ge a.length b.length with h2 | h2
      · rw [if_pos h2]; rfl
      · exfalso
        have h3 := Canon.lt_of_len (a := b) (b := a) hb.limbs ha (by omega)
        omega
  have hb0 : ((b.length : Int) == 0) = false := beq_eq_false_iff_ne.2 (by omega)
  simp only [N32] at hcmp
  obtain ⟨z2, hcl⟩ := rs_clone_call a (by omega) false []
  rw [WP_eq (show rsC.md 57 < 9 by decide) Try.func57 rfl]
  rw [show Try.f57.ntmps = 99 from rfl, rs_lv57]
  simp only [N32, List.map_cons, List.map_nil, List.length_cons, List.length_nil, Nat.reduceAdd, Nat.reduceSub, List.replicate, List.cons_append, List.nil_append]
  simp only [seqT, thn_normal, thn_ret, thn_exit, WC_region, WC_cond, WC_exit, WC_skip, WC_block, WC_ret, evRegion, Bool.false_eq_true, if_false, if_true, reduceIte, ops_n, ops_c, evStep, wantedA, evOp, opv, putA, ret1, ofVal, ofVal1, cellsOf, AV.isCell, clean, evFieldAddr, evField, evExtract, evBuild, evIndex, evBuiltin, evBuildSlice, evNilCheck, blkRead, mkAgg, mkTup, mapO, AV.pure?, setAt, afill, parts, calleeOf, tell, scalar, scalarL, norm, normL, ids, Go.Ev.mark, evResults, evResult, aggCells, partA, List.getElem?_cons_zero, List.getElem?_cons_succ, List.getElem?_nil, List.map_cons, List.map_nil, List.all_cons, List.all_nil, Bool.and_true, Bool.true_and, Bool.and_false, Bool.false_and, Bool.and_self, Bool.not_true, Bool.not_false, Bool.or_true, Bool.or_false, Bool.false_or, Bool.true_or, List.set, List.length_cons, List.length_nil, List.nil_append, List.cons_append, List.append_nil, Nat.reduceAdd, Nat.reduceSub, Nat.reduceMul, Nat.reduceLeDiff, Nat.zero_add, Nat.reduceEqDiff, List.replicate, List.drop, List.take, List.flatMap_cons, List.flatMap_nil, List.foldl_nil, List.foldl_cons, decide_true, decide_false, and_self, and_true, true_and, BEq.rfl, beq_self_eq_true, Option.map_some, Option.map_none, Option.bind_some, Option.bind_none, List.getElem?_toArray, Option.isSome_some, Option.isSome_none, beqs, ne_eq, not_true_eq_false, not_false_eq_true, false_or, or_false, or_self, Nat.reduceLT, false_and, and_false, List.nil_append, evEq, eqc, optO, b_add, b_sub, b_mul, b_eql, b_neq, b_lss, b_leq, b_gtr, b_geq, u_not, flags0, flags1, rs_P, evCall_tab (show ∀ f xs, rsC.O f xs = none from fun _ _ => rfl), normN, frz_p, ids_p, foldN, ite_self, len32 rs_P, hb0, hcmp, hzn, hcl, show rsC.md 61 = 4 from rfl, show rsC.md 24 = 0 from rfl, show Try.f57.results = #[.tmp 4, .tmp 5, .tmp 6] from rfl]
end Go.Proofs
set_option linter.unusedSimpArgs false
set_option linter.unusedVariables false
namespace Go.Proofs
open Go.Ev Go.Mx
theorem bl_ge {x : Nat} (h : 0 < x) : 2 ^ (bl x - 1) ≤ x := by
  induction x using Nat.strongRecOn with
  | ind x ih =>
    rw [bl_pos h, Nat.add_sub_cancel]
    rcases Nat.eq_zero_or_pos (x / 2) with h0 | h0
    · rw [h0, bl_zero]; omega
    · have h1 := ih (x / 2) (by omega) h0
      obtain ⟨k, hk⟩ : ∃ k, bl (x / 2) = k + 1 := ⟨bl (x / 2) - 1, by have := bl_pos h0; omega⟩
      rw [hk, Nat.add_sub_cancel] at h1
      rw [hk, Nat.pow_succ]
      omega
theorem slms {id ver n lo hi : Nat} (h1 : lo ≤ hi) (h2 : hi ≤ n) : evSlice Try.prog 24 (.ms id ver 0 n 1) (some (.p (.int .i64 (lo : Int)))) (some (.p (.int .i64 (hi : Int)))) none = some (.ms id ver lo (hi - lo) 1) := by
  simp only [evSlice, Try.underlying24, rs_T, bounds, bnd]
  rw [if_pos ⟨by omega, by omega⟩]
  simp only []
  rw [if_pos ⟨by omega, by omega⟩]
  simp
theorem mod3_0 {x y z : ABlk} {f : ABlk → ABlk} : [x, y, z].modify 0 f = [f x, y, z] := rfl
theorem mod3_2 {x y z : ABlk} {f : ABlk → ABlk} : [x, y, z].modify 2 f = [x, y, f z] := rfl
theorem mod2_1 {x y : ABlk} {f : ABlk → ABlk} : [x, y].modify 1 f = [x, f y] := rfl
theorem sc_ne {l : List Nat} {n : Nat} {x : Bool} (h : l ≠ []) : scalar (.sl n x (l.map pu)) = false := by
  cases l with
  | nil => exact absurd rfl h
  | cons a l => rfl
set_option maxRecDepth 100000 in
set_option maxHeartbeats 4000000 in
theorem rs_ndiv_high (a b : List Nat) (ha : Canon a) (hb : Canon b) (m : Nat) (hbl : b.length = m + 2) (hal : a.length ≤ 90000) (hb9 : b.length ≤ 90000) (hge : val b ≤ val a) : WP rsC 57 [N32 a, N32 b] = some (.tup [N32 (toL (val a / val b)), N32 (toL (val a % val b)), .bool true]) := by
  have hLB : LB = 4294967296 := rfl
  have hcmp := rs_ncmp a b ha.limbs hb.limbs (by omega) (by omega)
  obtain ⟨z, hz⟩ : ∃ z : Int, z = (if a.length = b.length then cmpN (val a) (val b) else if a.length < b.length then -1 else 1) := ⟨_, rfl⟩
  rw [← hz] at hcmp
  have hlen : b.length ≤ a.length := by
    rcases Nat.lt_or_ge a.length b.length with h2 | h2
    · exfalso
      have h3 := Canon.lt_of_len (a := a) (b := b) ha.limbs hb (by omega)
      omega
    · exact h2
  have hzn : decide (z < 0) = false := by
    rw [hz]
    by_cases h1 : a.length = b.length
    · rw [if_pos h1]; unfold cmpN; rw [if_neg (by omega)]; split <;> rfl
    · rw [if_neg h1, if_neg (by omega)]; rfl
  have hb0 : ((b.length : Int) == 0) = false := beq_eq_false_iff_ne.2 (by omega)
  have hb1 : ((b.length : Int) == 1) = false := beq_eq_false_iff_ne.2 (by omega)
  simp only [N32] at hcmp
  -- the divisor's highest digit
  have hblow := hb.low (k := m + 1) (by omega)
  have htv : val b = val (b.take (m + 1)) + b.getD (m + 1) 0 * LB ^ (m + 1) := by
    have h := val_take_succ b (m + 1) (by omega)
    rw [List.take_of_length_le (by omega)] at h
    exact h
  have hbt := low_lt hb.limbs (m := m + 1) (by omega)
  have htl := limbs_getD hb.limbs (m + 1)
  have htix := ix32 (l := b) (x := false) (i := m + 1) (by omega)
  have htld := fun H => ld32 (l := b) (i := m + 1) (H := H) (by omega)
  have i1 : IntKind.i64.wrap ((b.length : Int) - 1) = ((m + 1 : Nat) : Int) := by rw [wrap_i64 (by omega) (by omega)]; omega
  generalize b.getD (m + 1) 0 = top at *
  have htop1 : 1 ≤ top := by
    rcases Nat.eq_zero_or_pos top with h | h
    · exfalso; rw [h, Nat.zero_mul] at htv; omega
    · exact h
  have hlz := rs_lz32 top htl
  have hbt1 := bl_lt top
  have hbt2 := bl_ge (x := top) (by omega)
  have hbt3 : bl top ≤ 32 := bl_le htl
  have hbt4 := bl_pos (x := top) (by omega)
  obtain ⟨s, hs⟩ : ∃ s, s = 32 - bl top := ⟨_, rfl⟩
  rw [← hs] at hlz
  have ks : s < 32 := by omega
  have hpw : 2 ^ bl top * 2 ^ s = LB := by rw [← Nat.pow_add, show bl top + s = 32 by omega]; rfl
  have ktop : top * 2 ^ s < LB := by rw [← hpw]; exact Nat.mul_lt_mul_of_pos_right hbt1 (Nat.two_pow_pos s)
  have ktop2 : LB ≤ 2 * (top * 2 ^ s) := by
    have h1 : 2 ^ (bl top - 1) * 2 ^ s ≤ top * 2 ^ s := Nat.mul_le_mul_right _ hbt2
    have h2 : 2 ^ bl top = 2 ^ (bl top - 1) * 2 := by rw [← Nat.pow_succ]; congr 1; omega
    rw [h2, Nat.mul_right_comm] at hpw
    omega
  clear hbt1 hbt2 hbt3 hbt4 hs hpw
  -- moved up
  obtain ⟨u0, hu1, hu2, hu3, hu4⟩ := rs_nshifted a ha.limbs (by omega) s ks
  obtain ⟨v0, hv1, hv2, hv3, hv4⟩ := rs_nshifted b hb.limbs (by omega) s ks
  simp only [N32] at hu1 hv1
  have hp2 := Nat.two_pow_pos s
  obtain ⟨V, hV⟩ : ∃ V, V = val b * 2 ^ s := ⟨_, rfl⟩
  obtain ⟨U0, hU0⟩ : ∃ U0, U0 = val a * 2 ^ s := ⟨_, rfl⟩
  rw [← hV] at hv4
  rw [← hU0] at hu4
  have hVlt : V < LB ^ (m + 2) := by
    have h1 : V < (top + 1) * LB ^ (m + 1) * 2 ^ s := by
      rw [hV]
      exact Nat.mul_lt_mul_of_pos_right (by rw [htv, Nat.add_mul, Nat.one_mul]; omega) hp2
    have h2 : (top + 1) * 2 ^ s ≤ LB := by
      have hpow : LB = 2 ^ (32 - s) * 2 ^ s := by rw [← Nat.pow_add]; show LB = 2 ^ (32 - s + s); rw [show 32 - s + s = 32 by omega]; rfl
      rw [hpow] at ktop ⊢
      exact Nat.mul_le_mul_right _ (Nat.lt_of_mul_lt_mul_right ktop)
    have h3 : (top + 1) * LB ^ (m + 1) * 2 ^ s = (top + 1) * 2 ^ s * LB ^ (m + 1) := Nat.mul_right_comm _ _ _
    have h4 : (top + 1) * 2 ^ s * LB ^ (m + 1) ≤ LB * LB ^ (m + 1) := Nat.mul_le_mul_right _ h2
    rw [Nat.mul_comm LB, ← Nat.pow_succ] at h4
    change _ ≤ LB ^ (m + 2) at h4
    omega
  have hVge : top * 2 ^ s * LB ^ (m + 1) ≤ V := by
    rw [hV, htv, Nat.add_mul]
    have : top * LB ^ (m + 1) * 2 ^ s = top * 2 ^ s * LB ^ (m + 1) := Nat.mul_right_comm _ _ _
    omega
  obtain ⟨v, hv⟩ : ∃ v, v = toL V := ⟨_, rfl⟩
  have htrim : trim v0 = v := by rw [trim_toL hv2, hv4, hv]
  have hVlow : LB ^ (m + 1) ≤ V := by
    have : 1 * LB ^ (m + 1) ≤ top * 2 ^ s * LB ^ (m + 1) := Nat.mul_le_mul_right _ (Nat.mul_pos htop1 hp2)
    omega
  have hvl : v.length = m + 2 := by rw [hv]; exact len_toL (m + 1) V hVlow hVlt
  have hvlim : Limbs v := hv ▸ limbs_toL V
  have hvv : val v = V := by rw [hv, val_toL]
  have hvtop : LB ≤ 2 * v.getD (m + 1) 0 := by
    have h1 := val_take_succ v (m + 1) (by omega)
    rw [List.take_of_length_le (by omega), hvv] at h1
    have h2 := low_lt hvlim (m := m + 1) (by omega)
    have h3 : top * 2 ^ s * LB ^ (m + 1) < (v.getD (m + 1) 0 + 1) * LB ^ (m + 1) := by rw [Nat.add_mul, Nat.one_mul]; omega
    have h4 := Nat.lt_of_mul_lt_mul_right h3
    omega
  have hvne : v ≠ [] := by intro h; rw [h] at hvl; simp at hvl
  have hscv := fun n x => sc_ne (n := n) (x := x) hvne
  have hpl := rs_plain v0 (by omega)
  rw [htrim] at hpl
  simp only [N32, hv3] at hpl
  have hfv := frzG (H := [⟨0, false, lb u0⟩, ⟨0, false, lb v0⟩]) (id := 1) (ver := 0) (off := 0) (k := b.length + 1) (fz := false) (o := v0) rfl (by omega)
  rw [List.drop_zero, List.take_of_length_le (by omega)] at hfv
  have hidv := ids_ms (H := [⟨0, false, lb u0⟩, ⟨0, false, lb v0⟩]) (id := 1) (ver := 0) (off := 0) (k := b.length + 1) (fz := false) (o := v0) rfl
  obtain ⟨M, hM⟩ : ∃ M, a.length = M + (m + 2) := ⟨a.length - (m + 2), by omega⟩
  have j1 : IntKind.i64.wrap ((a.length : Int) - (b.length : Int)) = (M : Int) := by rw [wrap_i64 (by omega) (by omega)]; omega
  have j2 := inext (k := M) (by omega)
  obtain ⟨K, hK⟩ : ∃ K, K = M + 1 := ⟨_, rfl⟩
  rw [← hK] at j2
  have hmk := fun H => mk32 (n := K) (by omega) (H := H)
  have jK : IntKind.i64.wrap ((K : Int) - 1) = pm K := by rw [wrap_i64 (by omega) (by omega)]; rfl
  rw [WP_eq (show rsC.md 57 < 9 by decide) Try.func57 rfl]
  rw [show Try.f57.ntmps = 99 from rfl, rs_lv57]
  simp only [N32, List.map_cons, List.map_nil, List.length_cons, List.length_nil, Nat.reduceAdd, Nat.reduceSub, List.replicate, List.cons_append, List.nil_append]
  simp only [seqT, thn_normal, thn_ret, thn_exit, WC_region, WC_cond, WC_exit, WC_skip, WC_block, WC_ret, evRegion, Bool.false_eq_true, if_false, if_true, reduceIte, ops_n, ops_c, evStep, wantedA, evOp, opv, putA, ret1, ofVal, ofVal1, cellsOf, AV.isCell, clean, evFieldAddr, evField, evExtract, evBuild, evIndex, evBuiltin, evBuildSlice, evNilCheck, blkRead, mkAgg, mkTup, mapO, AV.pure?, setAt, afill, parts, calleeOf, tell, norm, normL, ids, Go.Ev.mark, evResults, evResult, aggCells, partA, List.getElem?_cons_zero, List.getElem?_cons_succ, List.getElem?_nil, List.map_cons, List.map_nil, List.all_cons, List.all_nil, Bool.and_true, Bool.true_and, Bool.and_false, Bool.false_and, Bool.and_self, Bool.not_true, Bool.not_false, Bool.or_true, Bool.or_false, Bool.false_or, Bool.true_or, List.set, List.length_cons, List.length_nil, List.nil_append, List.cons_append, List.append_nil, Nat.reduceAdd, Nat.reduceSub, Nat.reduceMul, Nat.reduceLeDiff, Nat.zero_add, Nat.reduceEqDiff, List.replicate, List.drop, List.take, List.flatMap_cons, List.flatMap_nil, List.foldl_nil, List.foldl_cons, decide_true, decide_false, and_self, and_true, true_and, BEq.rfl, beq_self_eq_true, Option.map_some, Option.map_none, Option.bind_some, Option.bind_none, List.getElem?_toArray, Option.isSome_some, Option.isSome_none, beqs, ne_eq, not_true_eq_false, not_false_eq_true, false_or, or_false, or_self, Nat.reduceLT, false_and, and_false, List.nil_append, evEq, eqc, optO, b_add, b_sub, b_mul, b_eql, b_neq, b_lss, b_leq, b_gtr, b_geq, u_not, flags0, flags1, rs_P, evCall_tab (show ∀ f xs, rsC.O f xs = none from fun _ _ => rfl), normN, frz_p, len32 rs_P, lenms rs_P, hb0, hb1, hcmp, hzn, show rsC.md 24 = 0 from rfl, i1, htix, htld, pu, hlz, show rsC.md 63 = 0 from rfl, evCall_own (C := rsC) (f := 64) (fun _ => rfl) (show rsC.md 64 = 1 from rfl), hu1, hv1, ownA, ownL_lb, shift, shiftB, shiftL_lb, Nat.add_zero, Nat.zero_add, show rsC.md 64 = 1 from rfl, hfv, hidv, hpl, hscv, show rsC.md 40 = 0 from rfl, mod2_1, j1, j2, hmk, jK, show scalar (.int .i64 z) = true from rfl, show scalar (.int .i64 (s : Int)) = true from rfl]
  generalize hI2 : (Code.loop _ : Code) = I2
  have inner2 : ∀ (k : Nat) (u q : List Nat) (t11 t12 t63 t80 : AV), k ≤ K → u.length = a.length + 1 → Limbs u → q.length = K → Limbs q → val u + val q * V = U0 → val u < V * LB ^ k → (∀ j, j < k → q.getD j 0 = 0) → ∃ (u' q' : List Nat) (t11' t12' t63' t80' : AV),
      WC rsC [true, true, false, false, true, true, true, true, true, true, true, true, true, true, false, false, false, true, false, false, false, false, false, false, true, false, false, false, false, false, false, false, false, false, false, false, false, false, false, false, false, false, false, false, false, false, false, false, false, false, false, false, false, false, false, false, false, false, false, false, false, false, false, true, false, false, false, false, false, false, false, false, false, false, false, false, false, false, false, false, true, false, false, false, false, false, false, false, false, false, false, false, false, false, false, false, false, false, false] I2 ⟨[.p (.sl a.length false (a.map pu)), .p (.sl b.length false (b.map pu)), .p .any, .p .any, .ms 2 0 0 K 1, .p (.nsl true), .p (.bool false), .p (.int .i64 (s : Int)), .ms 0 0 0 (a.length + 1) 1, .p (.sl v.length false (v.map pu)), .p (.int .i64 (pm k)), t11, t12, .p (.bool false), .p .any, .p .any, .p .any, .p (.bool false), .p .any, .p .any, .p .any, .p .any, .p .any, .p .any, .p (.bool false), .p .any, .p .any, .p .any, .p .any, .p .any, .p .any, .p .any, .p .any, .p .any, .p .any, .p .any, .p .any, .p .any, .p .any, .p .any, .p .any, .p .any, .p .any, .p .any, .p .any, .p .any, .p .any, .p .any, .p .any, .p .any, .p .any, .p .any, .p .any, .p .any, .p .any, .p .any, .p .any, .p .any, .p .any, .p .any, .p .any, .p .any, .p .any, t63, .p .any, .p .any, .p .any, .p .any, .p .any, .p .any, .p .any, .p .any, .p .any, .p .any, .p .any, .p .any, .p .any, .p .any, .p .any, .p .any, t80, .p .any, .p .any, .p .any, .p .any, .p .any, .p .any, .p .any, .p .any, .p .any, .p .any, .p .any, .p .any, .p .any, .p .any, .p .any, .p .any, .p .any, .p .any], [⟨0, false, lb u⟩, ⟨0, true, lb v0⟩, ⟨0, false, lb q⟩]⟩ = some (.exit 1, ⟨[.p (.sl a.length false (a.map pu)), .p (.sl b.length false (b.map pu)), .p .any, .p .any, .ms 2 0 0 K 1, .p (.nsl true), .p (.bool false), .p (.int .i64 (s : Int)), .ms 0 0 0 (a.length + 1) 1, .p (.sl v.length false (v.map pu)), .p (.int .i64 (-1)), t11', t12', .p (.bool false), .p .any, .p .any, .p .any, .p (.bool false), .p .any, .p .any, .p .any, .p .any, .p .any, .p .any, .p (.bool false), .p .any, .p .any, .p .any, .p .any, .p .any, .p .any, .p .any, .p .any, .p .any, .p .any, .p .any, .p .any, .p .any, .p .any, .p .any, .p .any, .p .any, .p .any, .p .any, .p .any, .p .any, .p .any, .p .any, .p .any, .p .any, .p .any, .p .any, .p .any, .p .any, .p .any, .p .any, .p .any, .p .any, .p .any, .p .any, .p .any, .p .any, .p .any, t63', .p .any, .p .any, .p .any, .p .any, .p .any, .p .any, .p .any, .p .any, .p .any, .p .any, .p .any, .p .any, .p .any, .p .any, .p .any, .p .any, t80', .p .any, .p .any, .p .any, .p .any, .p .any, .p .any, .p .any, .p .any, .p .any, .p .any, .p .any, .p .any, .p .any, .p .any, .p .any, .p .any, .p .any, .p .any], [⟨0, false, lb u'⟩, ⟨0, true, lb v0⟩, ⟨0, false, lb q'⟩]⟩) ∧ u'.length = a.length + 1 ∧ Limbs u' ∧ q'.length = K ∧ Limbs q' ∧ val u' + val q' * V = U0 ∧ val u' < V := by
    intro k
    induction k with
    | zero =>
      intro u q t11 t12 t63 t80 hk hu hlu hq hlq hsum hlt hz
      refine ⟨u, q, t11, t12, .p (.bool false), t80, ?_, hu, hlu, hq, hlq, hsum, by rw [Nat.pow_zero, Nat.mul_one] at hlt; exact hlt⟩
      have hge0 : decide ((-1 : Int) ≥ 0) = false := by decide
      rw [← hI2, WC_loop, hI2, pm_zero]
      simp only [seqT, thn_normal, thn_ret, thn_exit, WC_region, WC_cond, WC_exit, WC_skip, WC_block, WC_ret, evRegion, Bool.false_eq_true, if_false, if_true, reduceIte, ops_n, ops_c, evStep, wantedA, evOp, opv, putA, ret1, ofVal, ofVal1, cellsOf, AV.isCell, clean, evFieldAddr, evField, evExtract, evBuild, evIndex, evBuiltin, evBuildSlice, evNilCheck, blkRead, mkAgg, mkTup, mapO, AV.pure?, setAt, afill, parts, calleeOf, tell, scalar, scalarL, norm, normL, ids, Go.Ev.mark, evResults, evResult, aggCells, partA, List.getElem?_cons_zero, List.getElem?_cons_succ, List.getElem?_nil, List.map_cons, List.map_nil, List.all_cons, List.all_nil, Bool.and_true, Bool.true_and, Bool.and_false, Bool.false_and, Bool.and_self, Bool.not_true, Bool.not_false, Bool.or_true, Bool.or_false, Bool.false_or, Bool.true_or, List.set, List.length_cons, List.length_nil, List.nil_append, List.cons_append, List.append_nil, Nat.reduceAdd, Nat.reduceSub, Nat.reduceMul, Nat.reduceLeDiff, Nat.zero_add, Nat.reduceEqDiff, List.replicate, List.drop, List.take, List.flatMap_cons, List.flatMap_nil, List.foldl_nil, List.foldl_cons, decide_true, decide_false, and_self, and_true, true_and, BEq.rfl, beq_self_eq_true, Option.map_some, Option.map_none, Option.bind_some, Option.bind_none, List.getElem?_toArray, Option.isSome_some, Option.isSome_none, beqs, ne_eq, not_true_eq_false, not_false_eq_true, false_or, or_false, or_self, Nat.reduceLT, false_and, and_false, List.nil_append, evEq, eqc, optO, b_add, b_sub, b_mul, b_eql, b_neq, b_lss, b_leq, b_gtr, b_geq, u_not, flags0, flags1, rs_P, hge0]
    | succ k ih =>
      intro u q t11 t12 t63 t80 hk hu hlu hq hlq hsum hlt hz
      have hge0 : decide ((k : Int) ≥ 0) = true := decide_eq_true (by omega)
      have hwin := win_split u (at' := k) (n := m + 3) (by omega)
      obtain ⟨lo, hlo⟩ : ∃ lo, lo = u.take k := ⟨_, rfl⟩
      obtain ⟨w, hw⟩ : ∃ w, w = (u.drop k).take (m + 3) := ⟨_, rfl⟩
      obtain ⟨hi, hhi⟩ : ∃ hi, hi = u.drop (k + (m + 3)) := ⟨_, rfl⟩
      rw [← hlo, ← hw, ← hhi] at hwin
      have hlol : lo.length = k := by rw [hlo, List.length_take]; omega
      have hwl : w.length = m + 3 := by rw [hw, List.length_take, List.length_drop]; omega
      have hlw : Limbs w := fun x hx => hlu x (List.mem_of_mem_drop (List.mem_of_mem_take (hw ▸ hx)))
      have hllo : Limbs lo := fun x hx => hlu x (List.mem_of_mem_take (hlo ▸ hx))
      have hlhi : Limbs hi := fun x hx => hlu x (List.mem_of_mem_drop (hhi ▸ hx))
      clear hlo hw hhi
      subst hwin
      obtain ⟨hhi0, hW⟩ := k_hi (n := m + 2) hlol hwl hVlt hlt
      obtain ⟨g, hg1, hg2, hg3, hg4⟩ := rs_nguess w v m hlw hvlim hwl hvl (by omega) hvtop (by rw [hvv]; exact hW)
      rw [hvv] at hg3 hg4
      obtain ⟨w', br, hl1, hl2, hl3, hl4, hl5⟩ := rs_nless lo w hi v [⟨0, true, lb v0⟩, ⟨0, false, lb q⟩] (m + 2) g hlw hvlim hwl hvl hg2 (by omega)
      rw [hvv] at hl5
      rw [hlol] at hl1
      simp only [N32] at hg1 hl1
      rw [hwl] at hg1
      have hf0 := frzG (H := [⟨0, false, lb (lo ++ w ++ hi)⟩, ⟨0, true, lb v0⟩, ⟨0, false, lb q⟩]) (id := 0) (ver := 0) (off := k) (k := m + 3) (fz := false) (o := lo ++ w ++ hi) rfl (by omega)
      rw [show ((lo ++ w ++ hi).drop k).take (m + 3) = w by rw [List.append_assoc, ← hlol, List.drop_left, ← hwl, List.take_left]] at hf0
      have hkK : k < K := by omega
      have hkq : k < q.length := by omega
      have hs1 : IntKind.i64.wrap ((k : Int) - 1) = pm k := by rw [wrap_i64 (by omega) (by omega)]; rfl
      have hp1 : IntKind.i64.wrap ((k : Int) + (v.length : Int)) = ((k + (m + 2) : Nat) : Int) := by rw [wrap_i64 (by omega) (by omega)]; omega
      have hp2 := inext (k := k + (m + 2)) (by omega)
      have hsl := slms (id := 0) (ver := 0) (n := a.length + 1) (lo := k) (hi := k + (m + 2) + 1) (by omega) (by omega)
      rw [show k + (m + 2) + 1 - k = m + 3 by omega] at hsl
      have hnu : ∀ d, d < LB → IntKind.u32.wrap (d : Int) = ((d : Nat) : Int) := fun d hd => by rw [wrap_u32, Nat.mod_eq_of_lt hd]
      have hlen' : ∀ x : List Nat, x.length = m + 3 → (lo ++ x ++ hi).length = a.length + 1 := fun x hx => by rw [← hu]; simp [hx, hwl]
      have hlim' : ∀ x : List Nat, Limbs x → Limbs (lo ++ x ++ hi) := fun y hy x hx => by
        rcases List.mem_append.1 hx with h | h
        · rcases List.mem_append.1 h with h | h
          · exact hllo x h
          · exact hy x h
        · exact hlhi x h
      have hqv := fun d => val_set q k d hkq
      rw [hz k (by omega)] at hqv
      have hst := fun (y : List Nat) d => stG (H := [⟨0, false, lb (lo ++ y ++ hi)⟩, ⟨0, true, lb v0⟩, ⟨0, false, lb q⟩]) (id := 2) (ver := 0) (j := k) (z := d) (o := q) rfl hkq
      have hset := fun (x y z w : ABlk) => (rfl : [x, y, z].set 2 w = [x, y, w])
      rcases Nat.eq_zero_or_pos br with hbr | hbr
      · subst hbr
        rw [show decide (0 < 0) = false from rfl] at hl1
        rw [Nat.zero_mul, Nat.add_zero] at hl5
        have hstep := k_step (w' := w') (d := g) (n := m + 2) hllo hlol hwl hl2 hhi0 (by omega) (by rw [Nat.add_mul, Nat.one_mul] at hg3; omega) hsum
        obtain ⟨u', q', t11', t12', t63', t80', h1, h2⟩ := ih (lo ++ w' ++ hi) (q.set k g) (.ms 0 0 k (m + 3) 1) (.p (.int .u64 (g : Int))) (.p (.bool true)) (.p (.bool false)) (by omega) (hlen' w' hl2) (hlim' w' hl3) (by rw [List.length_set]; exact hq) (limbs_set hlq hg2) (by
          have := hqv g
          rw [Nat.zero_mul, Nat.add_zero] at this
          rw [this]; exact hstep.1) hstep.2 (fun j hj => by rw [getD_set_ne (by omega), hz j (by omega)])
        have hng := hnu g hg2
        have hsg := hst w' g
        refine ⟨u', q', t11', t12', t63', t80', ?_, h2⟩
        rw [← hI2, WC_loop, hI2, pm_succ]
        simp only [seqT, thn_normal, thn_ret, thn_exit, WC_region, WC_cond, WC_exit, WC_skip, WC_block, WC_ret, evRegion, Bool.false_eq_true, if_false, if_true, reduceIte, ops_n, ops_c, evStep, wantedA, evOp, opv, putA, ret1, ofVal, ofVal1, cellsOf, AV.isCell, clean, evFieldAddr, evField, evExtract, evBuild, evIndex, evBuiltin, evBuildSlice, evNilCheck, blkRead, mkAgg, mkTup, mapO, AV.pure?, setAt, afill, parts, calleeOf, tell, scalar, scalarL, norm, normL, ids, Go.Ev.mark, evResults, evResult, aggCells, partA, List.getElem?_cons_zero, List.getElem?_cons_succ, List.getElem?_nil, List.map_cons, List.map_nil, List.all_cons, List.all_nil, Bool.and_true, Bool.true_and, Bool.and_false, Bool.false_and, Bool.and_self, Bool.not_true, Bool.not_false, Bool.or_true, Bool.or_false, Bool.false_or, Bool.true_or, List.set, List.length_cons, List.length_nil, List.nil_append, List.cons_append, List.append_nil, Nat.reduceAdd, Nat.reduceSub, Nat.reduceMul, Nat.reduceLeDiff, Nat.zero_add, Nat.reduceEqDiff, List.replicate, List.drop, List.take, List.flatMap_cons, List.flatMap_nil, List.foldl_nil, List.foldl_cons, decide_true, decide_false, and_self, and_true, true_and, BEq.rfl, beq_self_eq_true, Option.map_some, Option.map_none, Option.bind_some, Option.bind_none, List.getElem?_toArray, Option.isSome_some, Option.isSome_none, beqs, ne_eq, not_true_eq_false, not_false_eq_true, false_or, or_false, or_self, Nat.reduceLT, false_and, and_false, List.nil_append, evEq, eqc, optO, b_add, b_sub, b_mul, b_eql, b_neq, b_lss, b_leq, b_gtr, b_geq, u_not, flags0, flags1, rs_P, evCall_tab (show ∀ f xs, rsC.O f xs = none from fun _ _ => rfl), normN, frz_p, hge0, hf0, hg1, hl1, evCall_mem (show rsC.md 66 = 2 from rfl), show rsC.md 66 = 2 from rfl, show rsC.md 65 = 0 from rfl, len32 rs_P, hp1, hp2, hsl, hng, hsg, hset, pu, mulConv, ixms hkK, Nat.zero_add, hs1]
        exact h1
      · obtain rfl : br = 1 := by omega
        rw [show decide (0 < 1) = true from rfl] at hl1
        rw [Nat.one_mul] at hl5
        obtain ⟨w2, c, hm1, hm2, hm3, hm4, hm5⟩ := rs_more lo w' hi v [⟨0, true, lb v0⟩, ⟨0, false, lb q⟩] (m + 2) hl3 hvlim hl2 hvl (by rw [hlen' w' hl2]; omega)
        rw [hlol] at hm1
        simp only [N32] at hm1
        rw [hvv] at hm5
        have hw'l := val_lt hl3
        have hw2l := val_lt hm3
        rw [hl2] at hw'l
        rw [hm2] at hw2l
        have hw'' : val w' < LB ^ (m + 2 + 1) := hw'l
        have hw2'' : val w2 < LB ^ (m + 2 + 1) := hw2l
        generalize LB ^ (m + 2 + 1) = PP at hl5 hm5 hw'' hw2''
        have hc1 : c = 1 := by
          rcases Nat.eq_zero_or_pos c with h | h
          · subst h; exfalso; rw [Nat.zero_mul, Nat.add_zero] at hm5; omega
          · omega
        subst hc1
        rw [Nat.one_mul] at hm5
        have hg0 : 1 ≤ g := by
          rcases Nat.eq_zero_or_pos g with h | h
          · exfalso; rw [h, Nat.zero_mul] at hl5; omega
          · exact h
        obtain ⟨d, hd⟩ : ∃ d, g = d + 1 := ⟨g - 1, by omega⟩
        have hgV : g * V = d * V + V := by rw [hd, Nat.add_mul, Nat.one_mul]
        have hstep := k_step (w' := w2) (d := d) (n := m + 2) hllo hlol hwl hm2 hhi0 (by omega) (by omega) hsum
        have hsb : IntKind.u64.wrap ((g : Int) - 1) = (d : Int) := by
          rw [show (g : Int) - 1 = (d : Int) by omega]
          exact w64 (by omega)
        obtain ⟨u', q', t11', t12', t63', t80', h1, h2⟩ := ih (lo ++ w2 ++ hi) (q.set k d) (.ms 0 0 k (m + 3) 1) (.p (.int .u64 (d : Int))) (.p (.bool true)) (.p (.bool true)) (by omega) (hlen' w2 hm2) (hlim' w2 hm3) (by rw [List.length_set]; exact hq) (limbs_set hlq (by omega)) (by
          have := hqv d
          rw [Nat.zero_mul, Nat.add_zero] at this
          rw [this]; exact hstep.1) hstep.2 (fun j hj => by rw [getD_set_ne (by omega), hz j (by omega)])
        have hng := hnu d (by omega)
        have hsg := hst w2 d
        refine ⟨u', q', t11', t12', t63', t80', ?_, h2⟩
        rw [← hI2, WC_loop, hI2, pm_succ]
        simp only [seqT, thn_normal, thn_ret, thn_exit, WC_region, WC_cond, WC_exit, WC_skip, WC_block, WC_ret, evRegion, Bool.false_eq_true, if_false, if_true, reduceIte, ops_n, ops_c, evStep, wantedA, evOp, opv, putA, ret1, ofVal, ofVal1, cellsOf, AV.isCell, clean, evFieldAddr, evField, evExtract, evBuild, evIndex, evBuiltin, evBuildSlice, evNilCheck, blkRead, mkAgg, mkTup, mapO, AV.pure?, setAt, afill, parts, calleeOf, tell, scalar, scalarL, norm, normL, ids, Go.Ev.mark, evResults, evResult, aggCells, partA, List.getElem?_cons_zero, List.getElem?_cons_succ, List.getElem?_nil, List.map_cons, List.map_nil, List.all_cons, List.all_nil, Bool.and_true, Bool.true_and, Bool.and_false, Bool.false_and, Bool.and_self, Bool.not_true, Bool.not_false, Bool.or_true, Bool.or_false, Bool.false_or, Bool.true_or, List.set, List.length_cons, List.length_nil, List.nil_append, List.cons_append, List.append_nil, Nat.reduceAdd, Nat.reduceSub, Nat.reduceMul, Nat.reduceLeDiff, Nat.zero_add, Nat.reduceEqDiff, List.replicate, List.drop, List.take, List.flatMap_cons, List.flatMap_nil, List.foldl_nil, List.foldl_cons, decide_true, decide_false, and_self, and_true, true_and, BEq.rfl, beq_self_eq_true, Option.map_some, Option.map_none, Option.bind_some, Option.bind_none, List.getElem?_toArray, Option.isSome_some, Option.isSome_none, beqs, ne_eq, not_true_eq_false, not_false_eq_true, false_or, or_false, or_self, Nat.reduceLT, false_and, and_false, List.nil_append, evEq, eqc, optO, b_add, b_sub, b_mul, b_eql, b_neq, b_lss, b_leq, b_gtr, b_geq, u_not, flags0, flags1, rs_P, evCall_tab (show ∀ f xs, rsC.O f xs = none from fun _ _ => rfl), normN, frz_p, hge0, hf0, hg1, hl1, evCall_mem (show rsC.md 66 = 2 from rfl), show rsC.md 66 = 2 from rfl, show rsC.md 65 = 0 from rfl, len32 rs_P, hp1, hp2, hsl, hng, hsg, hset, pu, mulConv, ixms hkK, Nat.zero_add, hs1, hm1, hsb, evCall_mem (show rsC.md 67 = 2 from rfl), show rsC.md 67 = 2 from rfl]
        exact h1
  have hbpos : 0 < val b := Nat.lt_of_lt_of_le (Nat.pow_pos (by decide)) hblow
  have hinit : val u0 < V * LB ^ K := by
    have h1 : U0 < LB ^ a.length * 2 ^ s := by rw [hU0]; exact Nat.mul_lt_mul_of_pos_right (val_lt ha.limbs) hp2
    have h2 : LB ^ (m + 1) * 2 ^ s * LB ^ K ≤ V * LB ^ K := Nat.mul_le_mul_right _ (by rw [hV]; exact Nat.mul_le_mul_right _ hblow)
    have h3 : LB ^ (m + 1) * 2 ^ s * LB ^ K = LB ^ a.length * 2 ^ s := by
      rw [Nat.mul_right_comm, ← Nat.pow_add, hM, hK, show m + 1 + (M + 1) = M + (m + 2) by omega]
    omega
  obtain ⟨u', q', t11', t12', t63', t80', e1, e2, e3, e4, e5, e6, e7⟩ := inner2 K u0 (List.replicate K 0) (.p .und) (.p .und) (.p .und) (.p .und) (Nat.le_refl _) hu3 hu2 (by simp) (fun x hx => by rw [List.eq_of_mem_replicate hx]; decide) (by rw [val_zeros, Nat.zero_mul, Nat.add_zero]; exact hu4) hinit (fun j _ => by simp [List.getD_eq_getElem?_getD, List.getElem?_replicate]; split <;> rfl)
  rw [e1]
  clear inner2 e1 hI2
  obtain ⟨r1, r2⟩ := div_scaled (a := val a) (b := val b) (s := s) hbpos (q := val q') (r := val u') (by rw [← hV, ← hU0]; exact e6) (by rw [← hV]; exact e7)
  have hut : val (u'.take (m + 2)) = val u' := by
    have h1 := val_append (u'.take (m + 2)) (u'.drop (m + 2))
    rw [List.take_append_drop, List.length_take, Nat.min_eq_left (by omega)] at h1
    rcases Nat.eq_zero_or_pos (val (u'.drop (m + 2))) with h | h
    · rw [h, Nat.mul_zero, Nat.add_zero] at h1; exact h1.symm
    · exfalso
      have : LB ^ (m + 2) * 1 ≤ LB ^ (m + 2) * val (u'.drop (m + 2)) := Nat.mul_le_mul_left _ h
      omega
  have hback := rs_nback (u'.take (m + 2)) (fun x hx => e3 x (List.mem_of_mem_take hx)) (by rw [List.length_take]; omega) s ks
  rw [hut, r2, N32, List.length_take, Nat.min_eq_left (by omega)] at hback
  have hq1 : trim q' = toL (val a / val b) := by rw [trim_toL e5, r1]
  have hqne : toL (val a / val b) ≠ [] := by
    intro h
    have := val_toL (val a / val b)
    rw [h] at this
    have h2 := Nat.div_pos hge hbpos
    simp only [val] at this
    omega
  have hplq := rs_plain q' (by omega)
  rw [hq1] at hplq
  simp only [N32, e4] at hplq
  have hfq := fun f f2 => frzG (H := [⟨0, f, lb u'⟩, ⟨0, true, lb v0⟩, ⟨0, f2, lb q'⟩]) (id := 2) (ver := 0) (off := 0) (k := K) (fz := f2) (o := q') rfl (by omega)
  simp only [List.drop_zero, List.take_of_length_le (show q'.length ≤ K by omega)] at hfq
  have hfqt := fun f => frzT (H := [⟨0, f, lb u'⟩, ⟨0, true, lb v0⟩, ⟨0, true, lb q'⟩]) (id := 2) (ver := 0) (off := 0) (k := K) (o := q') rfl (by omega)
  simp only [List.drop_zero, List.take_of_length_le (show q'.length ≤ K by omega)] at hfqt
  have hfu := fun f f2 => frzG (H := [⟨0, f, lb u'⟩, ⟨0, true, lb v0⟩, ⟨0, f2, lb q'⟩]) (id := 0) (ver := 0) (off := 0) (k := m + 2) (fz := f) (o := u') rfl (by omega)
  simp only [List.drop_zero] at hfu
  have hfut := fun f2 => frzT (H := [⟨0, true, lb u'⟩, ⟨0, true, lb v0⟩, ⟨0, f2, lb q'⟩]) (id := 0) (ver := 0) (off := 0) (k := m + 2) (o := u') rfl (by omega)
  simp only [List.drop_zero] at hfut
  have hidu := fun f f2 => ids_ms (H := [⟨0, f, lb u'⟩, ⟨0, true, lb v0⟩, ⟨0, f2, lb q'⟩]) (id := 0) (ver := 0) (off := 0) (k := m + 2) (fz := f) (o := u') rfl
  have hidq := fun f f2 => ids_ms (H := [⟨0, f, lb u'⟩, ⟨0, true, lb v0⟩, ⟨0, f2, lb q'⟩]) (id := 2) (ver := 0) (off := 0) (k := K) (fz := f2) (o := q') rfl
  have hsl := sliceToms (id := 0) (ver := 0) (n := a.length + 1) (i := m + 2) (by omega)
  have hvl2 : (v.length : Int) = ((m + 2 : Nat) : Int) := by omega
  have hscq := fun n x => sc_ne (n := n) (x := x) hqne
  generalize toL (val a % val b) = r at *
  generalize toL (val a / val b) = q at *
  simp only [N32] at hback
  by_cases hr : r = []
  · subst hr
    simp only [seqT, thn_normal, thn_ret, thn_exit, WC_region, WC_cond, WC_exit, WC_skip, WC_block, WC_ret, evRegion, Bool.false_eq_true, if_false, if_true, reduceIte, ops_n, ops_c, evStep, wantedA, evOp, opv, putA, ret1, ofVal, ofVal1, cellsOf, AV.isCell, clean, evFieldAddr, evField, evExtract, evBuild, evIndex, evBuiltin, evBuildSlice, evNilCheck, blkRead, mkAgg, mkTup, mapO, AV.pure?, setAt, afill, parts, calleeOf, tell, norm, normL, ids, Go.Ev.mark, evResults, evResult, aggCells, partA, List.getElem?_cons_zero, List.getElem?_cons_succ, List.getElem?_nil, List.map_cons, List.map_nil, List.all_cons, List.all_nil, Bool.and_true, Bool.true_and, Bool.and_false, Bool.false_and, Bool.and_self, Bool.not_true, Bool.not_false, Bool.or_true, Bool.or_false, Bool.false_or, Bool.true_or, List.set, List.length_cons, List.length_nil, List.nil_append, List.cons_append, List.append_nil, Nat.reduceAdd, Nat.reduceSub, Nat.reduceMul, Nat.reduceLeDiff, Nat.zero_add, Nat.reduceEqDiff, List.replicate, List.drop, List.take, List.flatMap_cons, List.flatMap_nil, List.foldl_nil, List.foldl_cons, decide_true, decide_false, and_self, and_true, true_and, BEq.rfl, beq_self_eq_true, Option.map_some, Option.map_none, Option.bind_some, Option.bind_none, List.getElem?_toArray, Option.isSome_some, Option.isSome_none, beqs, ne_eq, not_true_eq_false, not_false_eq_true, false_or, or_false, or_self, Nat.reduceLT, false_and, and_false, List.nil_append, evEq, eqc, optO, b_add, b_sub, b_mul, b_eql, b_neq, b_lss, b_leq, b_gtr, b_geq, u_not, flags0, flags1, rs_P, evCall_tab (show ∀ f xs, rsC.O f xs = none from fun _ _ => rfl), normN, frz_p, List.isEmpty_nil, mod3_0, mod3_2, len32 rs_P, hvl2, hplq, hfq, hfqt, hfu, hfut, hidu, hidq, ids_p, hsl, hback, hscq, flags33, Option.isSome_some, show Try.f57.results = #[.tmp 4, .tmp 5, .tmp 6] from rfl, show rsC.md 40 = 0 from rfl, show rsC.md 68 = 0 from rfl, show ∀ n x, scalar (.sl n x []) = true from fun _ _ => rfl]
  · have hsc := fun n x => sc_ne (n := n) (x := x) hr
    simp only [seqT, thn_normal, thn_ret, thn_exit, WC_region, WC_cond, WC_exit, WC_skip, WC_block, WC_ret, evRegion, Bool.false_eq_true, if_false, if_true, reduceIte, ops_n, ops_c, evStep, wantedA, evOp, opv, putA, ret1, ofVal, ofVal1, cellsOf, AV.isCell, clean, evFieldAddr, evField, evExtract, evBuild, evIndex, evBuiltin, evBuildSlice, evNilCheck, blkRead, mkAgg, mkTup, mapO, AV.pure?, setAt, afill, parts, calleeOf, tell, norm, normL, ids, Go.Ev.mark, evResults, evResult, aggCells, partA, List.getElem?_cons_zero, List.getElem?_cons_succ, List.getElem?_nil, List.map_cons, List.map_nil, List.all_cons, List.all_nil, Bool.and_true, Bool.true_and, Bool.and_false, Bool.false_and, Bool.and_self, Bool.not_true, Bool.not_false, Bool.or_true, Bool.or_false, Bool.false_or, Bool.true_or, List.set, List.length_cons, List.length_nil, List.nil_append, List.cons_append, List.append_nil, Nat.reduceAdd, Nat.reduceSub, Nat.reduceMul, Nat.reduceLeDiff, Nat.zero_add, Nat.reduceEqDiff, List.replicate, List.drop, List.take, List.flatMap_cons, List.flatMap_nil, List.foldl_nil, List.foldl_cons, decide_true, decide_false, and_self, and_true, true_and, BEq.rfl, beq_self_eq_true, Option.map_some, Option.map_none, Option.bind_some, Option.bind_none, List.getElem?_toArray, Option.isSome_some, Option.isSome_none, beqs, ne_eq, not_true_eq_false, not_false_eq_true, false_or, or_false, or_self, Nat.reduceLT, false_and, and_false, List.nil_append, evEq, eqc, optO, b_add, b_sub, b_mul, b_eql, b_neq, b_lss, b_leq, b_gtr, b_geq, u_not, flags0, flags1, rs_P, evCall_tab (show ∀ f xs, rsC.O f xs = none from fun _ _ => rfl), normN, frz_p, List.isEmpty_nil, mod3_0, mod3_2, len32 rs_P, hvl2, hplq, hfq, hfqt, hfu, hfut, hidu, hidq, ids_p, hsl, hback, hscq, flags33, Option.isSome_some, show Try.f57.results = #[.tmp 4, .tmp 5, .tmp 6] from rfl, show rsC.md 40 = 0 from rfl, show rsC.md 68 = 0 from rfl, hsc]
theorem rs_ndiv (a b : List Nat) (ha : Canon a) (hb : Canon b) (m : Nat) (hbl : b.length = m + 2) (hal : a.length ≤ 90000) (hb9 : b.length ≤ 90000) : WP rsC 57 [N32 a, N32 b] = some (.tup [N32 (toL (val a / val b)), N32 (toL (val a % val b)), .bool true]) := by
  rcases Nat.lt_or_ge (val a) (val b) with h | h
  · rw [rs_ndiv_low a b ha hb m hbl hal hb9 h, Nat.div_eq_of_lt h, Nat.mod_eq_of_lt h, show toL 0 = [] by unfold toL; rfl, show toL (val a) = a from ha]
  · exact rs_ndiv_high a b ha hb m hbl hal hb9 h
end Go.Proofs
