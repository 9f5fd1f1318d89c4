/- The document's numbers: back, less. No condition. -/
import Derived.Test.YtfhhgndppfpngaaRsa06
set_option linter.unusedSimpArgs false
set_option linter.unusedVariables false
set_option linter.unusedSimpArgs false
set_option linter.unusedVariables false
namespace Go.Proofs
open Go.Ev Go.Mx
theorem rs_lv51 : rsC.lv 51 = [true, true, false, false, true, true, true, false, false, false, false, false, false, true, false, false, false, false, false, false, false, false, false, false, false, false, false, false, false, false, false, false, false, false, false] := by kernel_rfl
theorem val_drop (a : List Nat) (k : Nat) : val (a.drop k) = a.getD k 0 + LB * val (a.drop (k + 1)) := by
  by_cases h : k < a.length
  · rw [List.drop_eq_getElem_cons h, List.getD_eq_getElem?_getD, List.getElem?_eq_getElem h]
    rfl
  · rw [List.drop_eq_nil_of_le (by omega), List.drop_eq_nil_of_le (by omega), List.getD_eq_getElem?_getD, List.getElem?_eq_none (by omega)]
    rfl
theorem val_div {a : List Nat} (ha : Limbs a) {k : Nat} (hk : k ≤ a.length) : val a / LB ^ k = val (a.drop k) := by
  have h1 := val_append (a.take k) (a.drop k)
  rw [List.take_append_drop, List.length_take, Nat.min_eq_left hk] at h1
  have h2 := val_lt (l := a.take k) (fun x hx => ha x (List.mem_of_mem_take hx))
  rw [List.length_take, Nat.min_eq_left hk] at h2
  rw [h1, Nat.add_mul_div_left _ _ (Nat.pow_pos (by decide)), Nat.div_eq_of_lt h2, Nat.zero_add]
/-- A limb of a number moved down. -/
theorem back_limb {a : List Nat} (ha : Limbs a) {n k : Nat} (hn : n < 32) (hk : k ≤ a.length) : (a.getD (k + 1) 0 * LB + a.getD k 0) / 2 ^ n % LB = val a / 2 ^ n / LB ^ k % LB := by
  rw [Nat.div_div_eq_div_mul, Nat.mul_comm (2 ^ n), ← Nat.div_div_eq_div_mul, val_div ha hk, val_drop a k, val_drop a (k + 1)]
  generalize val (a.drop (k + 1 + 1)) = r
  have e : a.getD k 0 + LB * (a.getD (k + 1) 0 + LB * r) = (a.getD (k + 1) 0 * LB + a.getD k 0) + 2 ^ n * (LB * (2 ^ (32 - n) * r)) := by
    have h2 : LB = 2 ^ n * 2 ^ (32 - n) := by rw [← Nat.pow_add, show n + (32 - n) = 32 by omega]; rfl
    have h3 : LB * (LB * r) = 2 ^ n * (LB * (2 ^ (32 - n) * r)) := by
      rw [← Nat.mul_assoc LB, ← Nat.mul_assoc LB, ← Nat.mul_assoc (2 ^ n)]
      rw [Nat.mul_comm LB (2 ^ (32 - n)), ← Nat.mul_assoc (2 ^ n), ← h2]
    rw [Nat.mul_add, h3, Nat.mul_comm (a.getD (k + 1) 0)]
    omega
  rw [e, Nat.add_mul_div_left _ _ (Nat.two_pow_pos n), Nat.add_mul_mod_self_left]
set_option maxRecDepth 100000 in
set_option maxHeartbeats 4000000 in
theorem rs_back (a : List Nat) (ha : Limbs a) (hla : a.length ≤ 100000) (n : Nat) (hn : n < 32) : WP rsC 51 [N32 a, .int .u64 (n : Int)] = some (N32 (toL (val a / 2 ^ n))) := by
  rw [WP_eq (show rsC.md 51 < 9 by decide) Try.func51 rfl]
  rw [show Try.f51.ntmps = 35 from rfl, rs_lv51]
  simp only [N32, List.map_cons, List.map_nil, List.length_cons, List.length_nil, Nat.reduceAdd, Nat.reduceSub, List.replicate, List.cons_append, List.nil_append]
  simp only [seqT, thn_normal, thn_ret, thn_exit, WC_region, WC_cond, WC_exit, WC_skip, WC_block, WC_ret, evRegion, Bool.false_eq_true, if_false, if_true, reduceIte, ops_n, ops_c, evStep, wantedA, evOp, opv, putA, ret1, ofVal, ofVal1, cellsOf, AV.isCell, clean, evFieldAddr, evField, evExtract, evBuild, evIndex, evBuiltin, evBuildSlice, evNilCheck, blkRead, mkAgg, mkTup, mapO, AV.pure?, setAt, afill, parts, calleeOf, tell, scalar, scalarL, frz, norm, normL, ids, Go.Ev.mark, deep, evResults, evResult, aggCells, partA, List.getElem?_cons_zero, List.getElem?_cons_succ, List.getElem?_nil, List.map_cons, List.map_nil, List.all_cons, List.all_nil, Bool.and_true, Bool.true_and, Bool.and_false, Bool.false_and, Bool.and_self, Bool.not_true, Bool.not_false, Bool.or_true, Bool.or_false, Bool.false_or, Bool.true_or, List.set, List.length_cons, List.length_nil, List.nil_append, List.cons_append, List.append_nil, Nat.reduceAdd, Nat.reduceSub, Nat.reduceMul, Nat.reduceLeDiff, Nat.zero_add, Nat.reduceEqDiff, List.replicate, List.drop, List.take, List.flatMap_cons, List.flatMap_nil, List.foldl_nil, List.foldl_cons, decide_true, decide_false, and_self, and_true, true_and, BEq.rfl, beq_self_eq_true, Option.map_some, Option.map_none, Option.bind_some, Option.bind_none, List.getElem?_toArray, Option.isSome_some, Option.isSome_none, beqs, ne_eq, not_true_eq_false, not_false_eq_true, false_or, or_false, or_self, Nat.reduceLT, false_and, and_false, List.nil_append, evEq, eqc, optO, b_add, b_sub, b_mul, b_eql, b_neq, b_lss, b_leq, b_gtr, b_geq, u_not, flags0, flags1, rs_P, len32 rs_P, mk32 (n := a.length) (by omega)]
  generalize hI : (Code.loop _ : Code) = I
  have inner : ∀ (m k : Nat) (o : List Nat) (t13 : AV), k + m = a.length → o.length = a.length → Limbs o → val o = val a / 2 ^ n % LB ^ k → (∀ j, k ≤ j → o.getD j 0 = 0) → ∃ (o' : List Nat) (t13' : AV),
      WC rsC [true, true, false, false, true, true, true, false, false, false, false, false, false, true, false, false, false, false, false, false, false, false, false, false, false, false, false, false, false, false, false, false, false, false, false] I ⟨[.p (.sl a.length false (a.map pu)), .p (.int .u64 (n : Int)), .p .any, .p .any, .p (.nsl true), .ms 0 0 0 a.length 1, .p (.int .i64 (k : Int)), .p .any, .p .any, .p .any, .p .any, .p .any, .p .any, t13, .p .any, .p .any, .p .any, .p .any, .p .any, .p .any, .p .any, .p .any, .p .any, .p .any, .p .any, .p .any, .p .any, .p .any, .p .any, .p .any, .p .any, .p .any, .p .any, .p .any, .p .any], [⟨0, false, lb o⟩]⟩ = some (.exit 0, ⟨[.p (.sl a.length false (a.map pu)), .p (.int .u64 (n : Int)), .p .any, .p .any, .p (.nsl true), .ms 0 0 0 a.length 1, .p (.int .i64 (a.length : Int)), .p .any, .p .any, .p .any, .p .any, .p .any, .p .any, t13', .p .any, .p .any, .p .any, .p .any, .p .any, .p .any, .p .any, .p .any, .p .any, .p .any, .p .any, .p .any, .p .any, .p .any, .p .any, .p .any, .p .any, .p .any, .p .any, .p .any, .p .any], [⟨0, false, lb o'⟩]⟩) ∧ o'.length = a.length ∧ Limbs o' ∧ val o' = val a / 2 ^ n % LB ^ a.length := by
    intro m
    induction m with
    | zero =>
      intro k o t13 hk ho hlo hv hz
      have hkb : k = a.length := by omega
      subst hkb
      have hlt : decide ((a.length : Int) < (a.length : Int)) = false := by simp
      refine ⟨o, .p (.bool false), ?_, ho, hlo, hv⟩
      rw [← hI, WC_loop, hI]
      simp only [seqT, thn_normal, thn_ret, thn_exit, WC_region, WC_cond, WC_exit, WC_skip, WC_block, WC_ret, evRegion, Bool.false_eq_true, if_false, if_true, reduceIte, ops_n, ops_c, evStep, wantedA, evOp, opv, putA, ret1, ofVal, ofVal1, cellsOf, AV.isCell, clean, evFieldAddr, evField, evExtract, evBuild, evIndex, evBuiltin, evBuildSlice, evNilCheck, blkRead, mkAgg, mkTup, mapO, AV.pure?, setAt, afill, parts, calleeOf, tell, scalar, scalarL, frz, norm, normL, ids, Go.Ev.mark, deep, evResults, evResult, aggCells, partA, List.getElem?_cons_zero, List.getElem?_cons_succ, List.getElem?_nil, List.map_cons, List.map_nil, List.all_cons, List.all_nil, Bool.and_true, Bool.true_and, Bool.and_false, Bool.false_and, Bool.and_self, Bool.not_true, Bool.not_false, Bool.or_true, Bool.or_false, Bool.false_or, Bool.true_or, List.set, List.length_cons, List.length_nil, List.nil_append, List.cons_append, List.append_nil, Nat.reduceAdd, Nat.reduceSub, Nat.reduceMul, Nat.reduceLeDiff, Nat.zero_add, Nat.reduceEqDiff, List.replicate, List.drop, List.take, List.flatMap_cons, List.flatMap_nil, List.foldl_nil, List.foldl_cons, decide_true, decide_false, and_self, and_true, true_and, BEq.rfl, beq_self_eq_true, Option.map_some, Option.map_none, Option.bind_some, Option.bind_none, List.getElem?_toArray, Option.isSome_some, Option.isSome_none, beqs, ne_eq, not_true_eq_false, not_false_eq_true, false_or, or_false, or_self, Nat.reduceLT, false_and, and_false, List.nil_append, evEq, eqc, optO, b_add, b_sub, b_mul, b_eql, b_neq, b_lss, b_leq, b_gtr, b_geq, u_not, flags0, flags1, rs_P, len32 rs_P, hlt]
    | succ m ih =>
      intro k o t13 hkm ho hlo hv hz
      have hk : k < a.length := by omega
      have hlt := ilt_t hk
      have hj : k < o.length := by omega
      have hda := rs_digit a ha (k + 1)
      simp only [N32] at hda
      have hx := limbs_getD ha k
      have hy := limbs_getD ha (k + 1)
      have hix := ix32 (x := false) hk
      have hld := ld32 (H := [⟨0, false, lb o⟩]) hk
      have hbl := back_limb ha hn (k := k) (by omega)
      generalize hxx : a.getD k 0 = x at *
      generalize hyy : a.getD (k + 1) 0 = y at *
      have hLB : LB = 4294967296 := rfl
      have hw1 := w64 (x := x) (by omega)
      have hk1 := inext (k := k) (by omega)
      have hw2 := wrap_u32 ((y * LB + x) / 2 ^ n)
      have hst := stms1 (ver := 0) (j := k) (z := (y * LB + x) / 2 ^ n % LB) (o := o) hj
      have hv1 := val_set o k ((y * LB + x) / 2 ^ n % LB) hj
      rw [hz k (Nat.le_refl _), Nat.zero_mul, Nat.add_zero] at hv1
      obtain ⟨o', t13', h1, h2, h3, h4⟩ := ih (k + 1) (o.set k ((y * LB + x) / 2 ^ n % LB)) (.p (.bool true)) (by omega) (by rw [List.length_set]; exact ho) (limbs_set hlo (Nat.mod_lt _ (by decide))) (by
        rw [hv1, hv, hbl, Nat.pow_succ, Nat.mod_mul, Nat.mul_comm (_ % LB)]) (fun j hj => by rw [getD_set_ne (by omega), hz _ (by omega)])
      refine ⟨o', t13', ?_, h2, h3, h4⟩
      rw [← hI, WC_loop, hI]
      simp only [seqT, thn_normal, thn_ret, thn_exit, WC_region, WC_cond, WC_exit, WC_skip, WC_block, WC_ret, evRegion, Bool.false_eq_true, if_false, if_true, reduceIte, ops_n, ops_c, evStep, wantedA, evOp, opv, putA, ret1, ofVal, ofVal1, cellsOf, AV.isCell, clean, evFieldAddr, evField, evExtract, evBuild, evIndex, evBuiltin, evBuildSlice, evNilCheck, blkRead, mkAgg, mkTup, mapO, AV.pure?, setAt, afill, parts, calleeOf, tell, scalar, scalarL, frz, norm, normL, ids, Go.Ev.mark, deep, evResults, evResult, aggCells, partA, List.getElem?_cons_zero, List.getElem?_cons_succ, List.getElem?_nil, List.map_cons, List.map_nil, List.all_cons, List.all_nil, Bool.and_true, Bool.true_and, Bool.and_false, Bool.false_and, Bool.and_self, Bool.not_true, Bool.not_false, Bool.or_true, Bool.or_false, Bool.false_or, Bool.true_or, List.set, List.length_cons, List.length_nil, List.nil_append, List.cons_append, List.append_nil, Nat.reduceAdd, Nat.reduceSub, Nat.reduceMul, Nat.reduceLeDiff, Nat.zero_add, Nat.reduceEqDiff, List.replicate, List.drop, List.take, List.flatMap_cons, List.flatMap_nil, List.foldl_nil, List.foldl_cons, decide_true, decide_false, and_self, and_true, true_and, BEq.rfl, beq_self_eq_true, Option.map_some, Option.map_none, Option.bind_some, Option.bind_none, List.getElem?_toArray, Option.isSome_some, Option.isSome_none, beqs, ne_eq, not_true_eq_false, not_false_eq_true, false_or, or_false, or_self, Nat.reduceLT, false_and, and_false, List.nil_append, evEq, eqc, optO, b_add, b_sub, b_mul, b_eql, b_neq, b_lss, b_leq, b_gtr, b_geq, u_not, flags0, flags1, rs_P, len32 rs_P, hlt, hix, hld, pu, mulConv, hw1, b_shl32 hy, b_joined hy hx, b_shr (show n < 64 by omega), hw2, hst, ixms hk, Nat.zero_add, hk1, hda, evCall_tab (show ∀ f xs, rsC.O f xs = none from fun _ _ => rfl), show rsC.md 30 = 0 from rfl, normN]
      exact h1
  obtain ⟨o', t13', k1, k2, k3, k4⟩ := inner a.length 0 (List.replicate a.length 0) (.p .und) (by omega) (by simp)
    (fun x hx => by rw [List.eq_of_mem_replicate hx]; decide) (by simp [val_zeros, Nat.mod_one]) (fun j _ => by simp [List.getD_eq_getElem?_getD, List.getElem?_replicate]; split <;> rfl)
  simp only [Int.natCast_zero, Int.cast_ofNat_Int] at k1
  have hval : val o' = val a / 2 ^ n := by
    rw [k4]
    exact Nat.mod_eq_of_lt (Nat.lt_of_le_of_lt (Nat.div_le_self _ _) (val_lt ha))
  have ht := rs_trimO o' (by omega) false
  rw [k2] at ht
  rw [k1]
  simp only [seqT, thn_normal, thn_ret, thn_exit, WC_region, WC_cond, WC_exit, WC_skip, WC_block, WC_ret, evRegion, Bool.false_eq_true, if_false, if_true, reduceIte, ops_n, ops_c, evStep, wantedA, evOp, opv, putA, ret1, ofVal, ofVal1, cellsOf, AV.isCell, clean, evFieldAddr, evField, evExtract, evBuild, evIndex, evBuiltin, evBuildSlice, evNilCheck, blkRead, mkAgg, mkTup, mapO, AV.pure?, setAt, afill, parts, calleeOf, tell, scalar, scalarL, norm, normL, ids, Go.Ev.mark, evResults, evResult, aggCells, partA, List.getElem?_cons_zero, List.getElem?_cons_succ, List.getElem?_nil, List.map_cons, List.map_nil, List.all_cons, List.all_nil, Bool.and_true, Bool.true_and, Bool.and_false, Bool.false_and, Bool.and_self, Bool.not_true, Bool.not_false, Bool.or_true, Bool.or_false, Bool.false_or, Bool.true_or, List.set, List.length_cons, List.length_nil, List.nil_append, List.cons_append, List.append_nil, Nat.reduceAdd, Nat.reduceSub, Nat.reduceMul, Nat.reduceLeDiff, Nat.zero_add, Nat.reduceEqDiff, List.replicate, List.drop, List.take, List.flatMap_cons, List.flatMap_nil, List.foldl_nil, List.foldl_cons, decide_true, decide_false, and_self, and_true, true_and, BEq.rfl, beq_self_eq_true, Option.map_some, Option.map_none, Option.bind_some, Option.bind_none, List.getElem?_toArray, Option.isSome_some, Option.isSome_none, beqs, ne_eq, not_true_eq_false, not_false_eq_true, false_or, or_false, or_self, Nat.reduceLT, false_and, and_false, List.nil_append, evEq, eqc, optO, b_add, b_sub, b_mul, b_eql, b_neq, b_lss, b_leq, b_gtr, b_geq, u_not, flags0, flags1, rs_P, evCall_mem (show rsC.md 31 = 2 from rfl), ht, show Try.f51.results = #[.tmp 4] from rfl, show rsC.md 31 = 2 from rfl]
  have hf := frz_lb (fz := false) (trim_le o')
  rw [trim_take, trim_toL k3, hval] at hf
  rw [trim_toL k3, hval]
  exact hf
end Go.Proofs
set_option linter.unusedSimpArgs false
set_option linter.unusedVariables false
namespace Go.Proofs
open Go.Ev Go.Mx
theorem frz_p {st : Bool} {H : List ABlk} {d : Nat} {x : PV} : frz st H d (.p x) = some (norm x) := by cases d <;> rfl
theorem mapO_lb {st : Bool} {H : List ABlk} {d : Nat} : ∀ (o : List Nat), mapO (frz st H d) (lb o) = some (o.map pu)
  | [] => rfl
  | x :: o => by
    have ih := mapO_lb (st := st) (H := H) (d := d) o
    show mapO (frz st H d) (.p (pu x) :: lb o) = _
    simp only [mapO, frz_p, ih]
    rfl
theorem frzG {H : List ABlk} {id ver off k : Nat} {fz : Bool} {o : List Nat} (hH : H[id]? = some ⟨ver, fz, lb o⟩) (hk : off + k ≤ o.length) : frz false H deep (.ms id ver off k 1) = some (.sl k false (((o.drop off).take k).map pu)) := by
  have h1 : ((lb o).drop off).take (k * 1) = lb ((o.drop off).take k) := by simp [lb, List.map_drop, List.map_take]
  show (match H[id]? with
    | none => none
    | some B => if B.ver = ver ∧ off + k * 1 ≤ B.cells.length ∧ (false = false ∨ B.fz = true) then
        match mapO (frz false H 5) ((B.cells.drop off).take (k * 1)) with
        | some cs => some (PV.sl k false cs)
        | none => none
      else none) = _
  rw [hH]
  simp only
  rw [if_pos ⟨trivial, by simp [lb]; omega, .inl trivial⟩, h1, mapO_lb]
theorem b_low {P : Program} {t : TypeId} {x : Nat} (hx : x < 18446744073709551616) : evBin P .and t (.p (.int .u64 (x : Int))) (.p (.int .u64 4294967295)) = some (.p (.int .u64 ((x % LB : Nat) : Int))) := by
  have h := b_and (P := P) (t := t) (x := x) (y := 4294967295) hx (by decide)
  rw [and_low] at h
  exact h
theorem getD_mid {lo w hi : List Nat} {i : Nat} (h : i < w.length) : (lo ++ w ++ hi).getD (lo.length + i) 0 = w.getD i 0 := by
  rw [List.getD_eq_getElem?_getD, List.append_assoc, List.getElem?_append_right (by omega), Nat.add_sub_cancel_left, List.getElem?_append_left h, ← List.getD_eq_getElem?_getD]
theorem set_mid {lo w hi : List Nat} {i z : Nat} (h : i < w.length) : (lo ++ w ++ hi).set (lo.length + i) z = lo ++ w.set i z ++ hi := by
  rw [List.append_assoc, List.set_append_right _ _ (by omega), Nat.add_sub_cancel_left, List.set_append_left _ _ h, List.append_assoc]
theorem win_split (u : List Nat) {at' n : Nat} (h : at' + n ≤ u.length) : u = u.take at' ++ (u.drop at').take n ++ u.drop (at' + n) := by
  rw [List.append_assoc, ← List.drop_drop, List.take_append_drop, List.take_append_drop]
end Go.Proofs
set_option linter.unusedSimpArgs false
set_option linter.unusedVariables false
namespace Go.Proofs
open Go.Ev Go.Mx
theorem rs_lv50 : rsC.lv 50 = [true, true, true, true, false, false, false, false, true, true, true, true, true, true, true, true, false, false, false, true, false, false, false, false, false, false, false, false, false, false, false, false, false, false, false, false, false, false, false, false, false, false, false, false, false, false, false, false, false, false, false, false, false, false, false, true, false, false, false, true, false, false, false, false, false, false, false, false, false, false, false, false, false, false, false, false, false, false, false, false, false, false, false, false] := by kernel_rfl
theorem flags3 {v0 v1 w0 w1 : Nat} {f0 f1 g0 g1 : Bool} {a0 a1 b0 b1 : List AV} {B : ABlk} : flags [⟨v0, f0, a0⟩, ⟨v1, f1, a1⟩, B] [⟨w0, g0, b0⟩, ⟨w1, g1, b1⟩, B] = [⟨v0, f0 || g0, a0⟩, ⟨v1, f1 || g1, a1⟩, B] := by
  cases B
  simp [flags]
set_option maxRecDepth 100000 in
set_option maxHeartbeats 4000000 in
theorem rs_less (lo w hi vb : List Nat) (B : ABlk) (n q : Nat) (hlw : Limbs w) (hlv : Limbs vb) (hw : w.length = n + 1) (hn : n ≤ vb.length) (hq : q < LB) (hsz : (lo ++ w ++ hi).length ≤ 100000) (hle : q * val (vb.take n) ≤ val w + val (vb.take n)) :
    ∃ w' : List Nat, W rsC 50 [.ms 0 0 0 (lo ++ w ++ hi).length 1, .ms 1 0 0 n 1, .p (.int .i64 (lo.length : Int)), .p (.int .u64 (q : Int))] [⟨0, false, lb (lo ++ w ++ hi)⟩, ⟨0, false, lb vb⟩, B] = some (.p (.bool (decide (q * val (vb.take n) ≤ val w))), [⟨0, false, lb (lo ++ w' ++ hi)⟩, ⟨0, false, lb vb⟩, B]) ∧ w'.length = n + 1 ∧ Limbs w' ∧
      val w' = if q * val (vb.take n) ≤ val w then val w - q * val (vb.take n) else val w + val (vb.take n) - q * val (vb.take n) := by
  obtain ⟨v, hv⟩ : ∃ v, v = vb.take n := ⟨_, rfl⟩
  have hlv' : Limbs v := fun x hx => hlv x (List.mem_of_mem_take (hv ▸ hx))
  have hvl : v.length = n := by rw [hv, List.length_take, Nat.min_eq_left hn]
  rw [← hv] at hle ⊢
  have hLB : LB = 4294967296 := rfl
  have hsz' : lo.length + (n + 1) ≤ 100000 := by simp at hsz; omega
  obtain ⟨L, hL⟩ : ∃ L, L = (lo ++ w ++ hi).length := ⟨_, rfl⟩
  have hL2 : lo.length + (n + 1) ≤ L := by rw [hL]; simp; omega
  rw [← hL]
  have hfz : ∀ (x : List Nat), frz false [⟨0, false, lb (lo ++ x ++ hi)⟩, ⟨0, false, lb vb⟩, B] deep (.ms 1 0 0 n 1) = some (.sl n false (v.map pu)) := fun x => by
    have := frzG (H := [⟨0, false, lb (lo ++ x ++ hi)⟩, ⟨0, false, lb vb⟩, B]) (id := 1) (ver := 0) (off := 0) (k := n) (fz := false) (o := vb) rfl (by omega)
    rw [List.drop_zero, ← hv] at this
    exact this
  have hdig : ∀ i : Nat, WP rsC 30 [.sl n false (v.map pu), .int .i64 (i : Int)] = some (.int .u64 ((v.getD i 0 : Nat) : Int)) := fun i => by
    have := rs_digit v hlv' i
    rw [N32, hvl] at this
    exact this
  have hfz2 : ∀ (f : Bool) (x : List Nat), frz false [⟨0, f, lb (lo ++ x ++ hi)⟩, ⟨0, false, lb vb⟩, B] deep (.ms 1 0 0 n 1) = some (.sl n false (v.map pu)) := fun f x => by
    have := frzG (H := [⟨0, f, lb (lo ++ x ++ hi)⟩, ⟨0, false, lb vb⟩, B]) (id := 1) (ver := 0) (off := 0) (k := n) (fz := false) (o := vb) rfl (by omega)
    rw [List.drop_zero, ← hv] at this
    exact this
  rw [W_fin (show rsC.md 50 < 9 by decide) Try.func50 rfl]
  rw [show Try.f50.ntmps = 84 from rfl, rs_lv50]
  simp only [N32, List.map_cons, List.map_nil, List.length_cons, List.length_nil, Nat.reduceAdd, Nat.reduceSub, List.replicate, List.cons_append, List.nil_append]
  simp only [seqT, thn_normal, thn_ret, thn_exit, WC_region, WC_cond, WC_exit, WC_skip, WC_block, WC_ret, evRegion, Bool.false_eq_true, if_false, if_true, reduceIte, ops_n, ops_c, evStep, wantedA, evOp, opv, putA, ret1, ofVal, ofVal1, cellsOf, AV.isCell, clean, evFieldAddr, evField, evExtract, evBuild, evIndex, evBuiltin, evBuildSlice, evNilCheck, blkRead, mkAgg, mkTup, mapO, AV.pure?, setAt, afill, parts, calleeOf, tell, scalar, scalarL, norm, normL, ids, Go.Ev.mark, evResults, evResult, aggCells, partA, List.getElem?_cons_zero, List.getElem?_cons_succ, List.getElem?_nil, List.map_cons, List.map_nil, List.all_cons, List.all_nil, Bool.and_true, Bool.true_and, Bool.and_false, Bool.false_and, Bool.and_self, Bool.not_true, Bool.not_false, Bool.or_true, Bool.or_false, Bool.false_or, Bool.true_or, List.set, List.length_cons, List.length_nil, List.nil_append, List.cons_append, List.append_nil, Nat.reduceAdd, Nat.reduceSub, Nat.reduceMul, Nat.reduceLeDiff, Nat.zero_add, Nat.reduceEqDiff, List.replicate, List.drop, List.take, List.flatMap_cons, List.flatMap_nil, List.foldl_nil, List.foldl_cons, decide_true, decide_false, and_self, and_true, true_and, BEq.rfl, beq_self_eq_true, Option.map_some, Option.map_none, Option.bind_some, Option.bind_none, List.getElem?_toArray, Option.isSome_some, Option.isSome_none, beqs, ne_eq, not_true_eq_false, not_false_eq_true, false_or, or_false, or_self, Nat.reduceLT, false_and, and_false, List.nil_append, evEq, eqc, optO, b_add, b_sub, b_mul, b_eql, b_neq, b_lss, b_leq, b_gtr, b_geq, u_not, flags0, flags1, rs_P, lenms rs_P]
  generalize hI : (Code.loop _ : Code) = I
  have inner : ∀ (m k : Nat) (x : List Nat) (br c : Nat) (t12 t13 t19 : AV), k + m = n + 1 → x.length = n + 1 → Limbs x → br ≤ 1 → c < LB → (k = n + 1 → c = 0) → val x + q * val (v.take k) = val w + (c + br) * LB ^ k → (∀ j, k ≤ j → x.getD j 0 = w.getD j 0) → ∃ (x' : List Nat) (br' c' : Nat) (t12' t13' t19' : AV),
      WC rsC [true, true, true, true, false, false, false, false, true, true, true, true, true, true, true, true, false, false, false, true, false, false, false, false, false, false, false, false, false, false, false, false, false, false, false, false, false, false, false, false, false, false, false, false, false, false, false, false, false, false, false, false, false, false, false, true, false, false, false, true, false, false, false, false, false, false, false, false, false, false, false, false, false, false, false, false, false, false, false, false, false, false, false, false] I ⟨[.ms 0 0 0 L 1, .ms 1 0 0 n 1, .p (.int .i64 (lo.length : Int)), .p (.int .u64 (q : Int)), .p .any, .p .any, .p .any, .p .any, .p (.bool false), .p (.int .u64 (br : Int)), .p (.int .u64 (c : Int)), .p (.int .i64 (k : Int)), t12, t13, .p .und, .p .und, .p .any, .p .any, .p .any, t19, .p .any, .p .any, .p .any, .p .any, .p .any, .p .any, .p .any, .p .any, .p .any, .p .any, .p .any, .p .any, .p .any, .p .any, .p .any, .p .any, .p .any, .p .any, .p .any, .p .any, .p .any, .p .any, .p .any, .p .any, .p .any, .p .any, .p .any, .p .any, .p .any, .p .any, .p .any, .p .any, .p .any, .p .any, .p .any, .p .und, .p .any, .p .any, .p .any, .p .und, .p .any, .p .any, .p .any, .p .any, .p .any, .p .any, .p .any, .p .any, .p .any, .p .any, .p .any, .p .any, .p .any, .p .any, .p .any, .p .any, .p .any, .p .any, .p .any, .p .any, .p .any, .p .any, .p .any, .p .any], [⟨0, false, lb (lo ++ x ++ hi)⟩, ⟨0, false, lb vb⟩, B]⟩ = some (.exit 0, ⟨[.ms 0 0 0 L 1, .ms 1 0 0 n 1, .p (.int .i64 (lo.length : Int)), .p (.int .u64 (q : Int)), .p .any, .p .any, .p .any, .p .any, .p (.bool false), .p (.int .u64 (br' : Int)), .p (.int .u64 (c' : Int)), .p (.int .i64 ((n + 1 : Nat) : Int)), t12', t13', .p .und, .p .und, .p .any, .p .any, .p .any, t19', .p .any, .p .any, .p .any, .p .any, .p .any, .p .any, .p .any, .p .any, .p .any, .p .any, .p .any, .p .any, .p .any, .p .any, .p .any, .p .any, .p .any, .p .any, .p .any, .p .any, .p .any, .p .any, .p .any, .p .any, .p .any, .p .any, .p .any, .p .any, .p .any, .p .any, .p .any, .p .any, .p .any, .p .any, .p .any, .p .und, .p .any, .p .any, .p .any, .p .und, .p .any, .p .any, .p .any, .p .any, .p .any, .p .any, .p .any, .p .any, .p .any, .p .any, .p .any, .p .any, .p .any, .p .any, .p .any, .p .any, .p .any, .p .any, .p .any, .p .any, .p .any, .p .any, .p .any, .p .any], [⟨0, false, lb (lo ++ x' ++ hi)⟩, ⟨0, false, lb vb⟩, B]⟩) ∧ x'.length = n + 1 ∧ Limbs x' ∧ br' ≤ 1 ∧ c' = 0 ∧ val x' + q * val v = val w + br' * LB ^ (n + 1) := by
    intro m
    induction m with
    | zero =>
      intro k x br c t12 t13 t19 hk hx hlx hb hc hc0 hv1 hz
      obtain rfl : k = n + 1 := by omega
      have hlt : decide (((n + 1 : Nat) : Int) ≤ (n : Int)) = false := by simp; omega
      refine ⟨x, br, c, t12, t13, .p (.bool false), ?_, hx, hlx, hb, hc0 rfl, by rw [List.take_of_length_le (by omega), hc0 rfl, Nat.zero_add] at hv1; exact hv1⟩
      rw [← hI, WC_loop, hI]
      simp only [seqT, thn_normal, thn_ret, thn_exit, WC_region, WC_cond, WC_exit, WC_skip, WC_block, WC_ret, evRegion, Bool.false_eq_true, if_false, if_true, reduceIte, ops_n, ops_c, evStep, wantedA, evOp, opv, putA, ret1, ofVal, ofVal1, cellsOf, AV.isCell, clean, evFieldAddr, evField, evExtract, evBuild, evIndex, evBuiltin, evBuildSlice, evNilCheck, blkRead, mkAgg, mkTup, mapO, AV.pure?, setAt, afill, parts, calleeOf, tell, scalar, scalarL, norm, normL, ids, Go.Ev.mark, evResults, evResult, aggCells, partA, List.getElem?_cons_zero, List.getElem?_cons_succ, List.getElem?_nil, List.map_cons, List.map_nil, List.all_cons, List.all_nil, Bool.and_true, Bool.true_and, Bool.and_false, Bool.false_and, Bool.and_self, Bool.not_true, Bool.not_false, Bool.or_true, Bool.or_false, Bool.false_or, Bool.true_or, List.set, List.length_cons, List.length_nil, List.nil_append, List.cons_append, List.append_nil, Nat.reduceAdd, Nat.reduceSub, Nat.reduceMul, Nat.reduceLeDiff, Nat.zero_add, Nat.reduceEqDiff, List.replicate, List.drop, List.take, List.flatMap_cons, List.flatMap_nil, List.foldl_nil, List.foldl_cons, decide_true, decide_false, and_self, and_true, true_and, BEq.rfl, beq_self_eq_true, Option.map_some, Option.map_none, Option.bind_some, Option.bind_none, List.getElem?_toArray, Option.isSome_some, Option.isSome_none, beqs, ne_eq, not_true_eq_false, not_false_eq_true, false_or, or_false, or_self, Nat.reduceLT, false_and, and_false, List.nil_append, evEq, eqc, optO, b_add, b_sub, b_mul, b_eql, b_neq, b_lss, b_leq, b_gtr, b_geq, u_not, flags0, flags1, rs_P, lenms rs_P, hlt]
    | succ m ih =>
      intro k x br c t12 t13 t19 hkm hx hlx hb hc hc0 hv1 hz
      have hk : k < n + 1 := by omega
      have hlt : decide ((k : Int) ≤ (n : Int)) = true := by simp; omega
      have hj : k < x.length := by omega
      have hjL : lo.length + k < L := by omega
      have hjl : lo.length + k < (lo ++ x ++ hi).length := by simp; omega
      have hd := hdig k
      have hdl := limbs_getD hlv' k
      have hvt := val_take_next v k
      have hxl := limbs_getD hlx k
      have hgm := getD_mid (lo := lo) (hi := hi) hj
      have hld := ldG (H := [⟨0, false, lb (lo ++ x ++ hi)⟩, ⟨0, false, lb vb⟩, B]) (id := 0) (ver := 0) (fz := false) rfl hjl
      rw [hgm] at hld
      have hvs := fun z => val_set x k z hj
      generalize hdd : v.getD k 0 = d at *
      generalize hgg : x.getD k 0 = g at *
      have hqd : q * d ≤ (LB - 1) * (LB - 1) := Nat.mul_le_mul (by omega) (by omega)
      have hqd2 : (LB - 1) * (LB - 1) = 18446744065119617025 := by decide
      rw [hqd2] at hqd
      have hw1 : IntKind.u64.wrap ((q : Int) * (d : Int)) = ((q * d : Nat) : Int) := by rw [← Int.natCast_mul]; exact w64 (by omega)
      have hw2 : IntKind.u64.wrap (((q * d : Nat) : Int) + (c : Int)) = ((q * d + c : Nat) : Int) := by rw [← Int.natCast_add]; exact w64 (by omega)
      obtain ⟨p, hp⟩ : ∃ p, p = q * d + c := ⟨_, rfl⟩
      rw [← hp] at hw2
      have hp64 : p < 18446744073709551616 := by omega
      have hpl : p % LB < LB := Nat.mod_lt _ (by decide)
      have hpd : p / LB < LB := Nat.div_lt_of_lt_mul (by rw [hLB]; omega)
      have hidx : IntKind.i64.wrap ((lo.length : Int) + (k : Int)) = ((lo.length + k : Nat) : Int) := by rw [wrap_i64 (by omega) (by omega)]; omega
      have hg1 := w64 (x := g) (by omega)
      have ha1 : IntKind.u64.wrap ((g : Int) + 4294967296) = ((g + LB : Nat) : Int) := by rw [hLB]; exact w64 (x := g + 4294967296) (by omega)
      have ha2 : IntKind.u64.wrap (((g + LB : Nat) : Int) - ((p % LB : Nat) : Int)) = ((g + LB - p % LB : Nat) : Int) := by rw [← Int.natCast_sub (by omega)]; exact w64 (by omega)
      have ha3 : IntKind.u64.wrap (((g + LB - p % LB : Nat) : Int) - (br : Int)) = ((g + LB - p % LB - br : Nat) : Int) := by rw [← Int.natCast_sub (by omega)]; exact w64 (by omega)
      obtain ⟨s, hs⟩ : ∃ s, s = g + LB - p % LB - br := ⟨_, rfl⟩
      rw [← hs] at ha3
      have hs1 : s < 2 * LB := by omega
      have hsd : s / LB ≤ 1 := by have := Nat.div_lt_of_lt_mul (show s < LB * 2 by omega); omega
      have hb1 : IntKind.u64.wrap ((1 : Int) - ((s / LB : Nat) : Int)) = ((1 - s / LB : Nat) : Int) := by
        rw [show ((1 : Int)) = ((1 : Nat) : Int) from rfl, ← Int.natCast_sub (by omega)]; exact w64 (Nat.lt_of_le_of_lt (Nat.sub_le 1 _) (by decide))
      have hk1 := inext (k := k) (by omega)
      have hwu := wrap_u32 s
      have hst := stG (H := [⟨0, false, lb (lo ++ x ++ hi)⟩, ⟨0, false, lb vb⟩, B]) (id := 0) (ver := 0) (j := lo.length + k) (z := s % LB) (o := lo ++ x ++ hi) rfl hjl
      rw [set_mid hj] at hst
      obtain ⟨x', br', c', t12', t13', t19', h1, h2, h3, h4, h5, h6⟩ := ih (k + 1) (x.set k (s % LB)) (1 - s / LB) (p / LB) (.p (.int .u64 (p : Int))) (.p (.int .u64 (s : Int))) (.p (.bool true)) (by omega) (by rw [List.length_set]; exact hx) (limbs_set hlx (Nat.mod_lt _ (by decide))) (Nat.sub_le 1 _) hpd (fun hkn => by
        have hd0 : d = 0 := by rw [← hdd, List.getD_eq_getElem?_getD, List.getElem?_eq_none (by omega)]; rfl
        rw [hp, hd0, Nat.mul_zero, Nat.zero_add]
        exact Nat.div_eq_of_lt hc) (by
        have hv2 := hvs (s % LB)
        rw [hvt, Nat.pow_succ]
        generalize LB ^ k = P at *
        have e1 := split_mul p P
        have e2 := split_mul s P
        have e3 : q * (val (v.take k) + d * P) = q * val (v.take k) + q * d * P := by rw [Nat.mul_add, Nat.mul_assoc]
        have e4 : p * P = q * d * P + c * P := by rw [hp, Nat.add_mul]
        have e5 : s * P + p % LB * P + br * P = g * P + LB * P := by
          rw [← Nat.add_mul, ← Nat.add_mul, ← Nat.add_mul]
          congr 1
          omega
        have e6 : (p / LB + (1 - s / LB)) * (P * LB) + s / LB * (P * LB) = p / LB * (P * LB) + P * LB := by
          rw [← Nat.add_mul, show p / LB + (1 - s / LB) + s / LB = p / LB + 1 by omega, Nat.add_mul, Nat.one_mul]
        have e7 : (c + br) * P = c * P + br * P := Nat.add_mul _ _ _
        rw [e3]
        rw [e7] at hv1
        rw [Nat.mul_comm LB P] at e5
        omega) (fun j hj => by rw [getD_set_ne (by omega), hz _ (by omega)])
      refine ⟨x', br', c', t12', t13', t19', ?_, h2, h3, h4, h5, h6⟩
      rw [← hI, WC_loop, hI]
      simp only [seqT, thn_normal, thn_ret, thn_exit, WC_region, WC_cond, WC_exit, WC_skip, WC_block, WC_ret, evRegion, Bool.false_eq_true, if_false, if_true, reduceIte, ops_n, ops_c, evStep, wantedA, evOp, opv, putA, ret1, ofVal, ofVal1, cellsOf, AV.isCell, clean, evFieldAddr, evField, evExtract, evBuild, evIndex, evBuiltin, evBuildSlice, evNilCheck, blkRead, mkAgg, mkTup, mapO, AV.pure?, setAt, afill, parts, calleeOf, tell, scalar, scalarL, norm, normL, ids, Go.Ev.mark, evResults, evResult, aggCells, partA, List.getElem?_cons_zero, List.getElem?_cons_succ, List.getElem?_nil, List.map_cons, List.map_nil, List.all_cons, List.all_nil, Bool.and_true, Bool.true_and, Bool.and_false, Bool.false_and, Bool.and_self, Bool.not_true, Bool.not_false, Bool.or_true, Bool.or_false, Bool.false_or, Bool.true_or, List.set, List.length_cons, List.length_nil, List.nil_append, List.cons_append, List.append_nil, Nat.reduceAdd, Nat.reduceSub, Nat.reduceMul, Nat.reduceLeDiff, Nat.zero_add, Nat.reduceEqDiff, List.replicate, List.drop, List.take, List.flatMap_cons, List.flatMap_nil, List.foldl_nil, List.foldl_cons, decide_true, decide_false, and_self, and_true, true_and, BEq.rfl, beq_self_eq_true, Option.map_some, Option.map_none, Option.bind_some, Option.bind_none, List.getElem?_toArray, Option.isSome_some, Option.isSome_none, beqs, ne_eq, not_true_eq_false, not_false_eq_true, false_or, or_false, or_self, Nat.reduceLT, false_and, and_false, List.nil_append, evEq, eqc, optO, b_add, b_sub, b_mul, b_eql, b_neq, b_lss, b_leq, b_gtr, b_geq, u_not, flags0, flags1, rs_P, lenms rs_P, hlt, hfz, frz_p, hd, hw1, hw2, b_shr32, b_low hp64, hidx, ixms hjL, Nat.zero_add, hld, pu, mulConv, hg1, ha1, ha2, ha3, hwu, hst, hb1, hk1, evCall_tab (show ∀ f xs, rsC.O f xs = none from fun _ _ => rfl), show rsC.md 30 = 0 from rfl, normN]
      exact h1
  obtain ⟨x', br', c', t12', t13', t19', k1, k2, k3, k4, k5, k6⟩ := inner (n + 1) 0 w 0 0 (.p .und) (.p .und) (.p .und) (by omega) hw hlw (by omega) (by decide) (fun h => by omega) (by simp [val]) (fun _ _ => rfl)
  simp only [Int.natCast_zero, Int.cast_ofNat_Int] at k1
  rw [k1]
  have hvb : val v < LB ^ n := by have := val_lt hlv'; rwa [hvl] at this
  have hxb : val x' < LB ^ (n + 1) := by have := val_lt k3; rwa [k2] at this
  subst k5
  rcases (show br' = 0 ∨ br' = 1 by omega) with h | h
  · subst h
    rw [Nat.zero_mul, Nat.add_zero] at k6
    have hdec : q * val v ≤ val w := by omega
    refine ⟨x', ?_, k2, k3, by rw [if_pos hdec]; omega⟩
    rw [decide_eq_true hdec]
    simp only [seqT, thn_normal, thn_ret, thn_exit, WC_region, WC_cond, WC_exit, WC_skip, WC_block, WC_ret, evRegion, Bool.false_eq_true, if_false, if_true, reduceIte, ops_n, ops_c, evStep, wantedA, evOp, opv, putA, ret1, ofVal, ofVal1, cellsOf, AV.isCell, clean, evFieldAddr, evField, evExtract, evBuild, evIndex, evBuiltin, evBuildSlice, evNilCheck, blkRead, mkAgg, mkTup, mapO, AV.pure?, setAt, afill, parts, calleeOf, tell, scalar, scalarL, norm, normL, ids, Go.Ev.mark, evResults, evResult, aggCells, partA, List.getElem?_cons_zero, List.getElem?_cons_succ, List.getElem?_nil, List.map_cons, List.map_nil, List.all_cons, List.all_nil, Bool.and_true, Bool.true_and, Bool.and_false, Bool.false_and, Bool.and_self, Bool.not_true, Bool.not_false, Bool.or_true, Bool.or_false, Bool.false_or, Bool.true_or, List.set, List.length_cons, List.length_nil, List.nil_append, List.cons_append, List.append_nil, Nat.reduceAdd, Nat.reduceSub, Nat.reduceMul, Nat.reduceLeDiff, Nat.zero_add, Nat.reduceEqDiff, List.replicate, List.drop, List.take, List.flatMap_cons, List.flatMap_nil, List.foldl_nil, List.foldl_cons, decide_true, decide_false, and_self, and_true, true_and, BEq.rfl, beq_self_eq_true, Option.map_some, Option.map_none, Option.bind_some, Option.bind_none, List.getElem?_toArray, Option.isSome_some, Option.isSome_none, beqs, ne_eq, not_true_eq_false, not_false_eq_true, false_or, or_false, or_self, Nat.reduceLT, false_and, and_false, List.nil_append, evEq, eqc, optO, b_add, b_sub, b_mul, b_eql, b_neq, b_lss, b_leq, b_gtr, b_geq, u_not, flags0, flags1, rs_P, lenms rs_P, Int.natCast_zero, Int.cast_ofNat_Int, show Try.f50.results = #[.tmp 8] from rfl, fin]
  · subst h
    rw [Nat.one_mul] at k6
    have hdec : ¬ q * val v ≤ val w := by omega
    rw [decide_eq_false hdec]
    have hone : (((1 : Nat) : Int) == 0) = false := by decide
    simp only [seqT, thn_normal, thn_ret, thn_exit, WC_region, WC_cond, WC_exit, WC_skip, WC_block, WC_ret, evRegion, Bool.false_eq_true, if_false, if_true, reduceIte, ops_n, ops_c, evStep, wantedA, evOp, opv, putA, ret1, ofVal, ofVal1, cellsOf, AV.isCell, clean, evFieldAddr, evField, evExtract, evBuild, evIndex, evBuiltin, evBuildSlice, evNilCheck, blkRead, mkAgg, mkTup, mapO, AV.pure?, setAt, afill, parts, calleeOf, tell, scalar, scalarL, norm, normL, ids, Go.Ev.mark, evResults, evResult, aggCells, partA, List.getElem?_cons_zero, List.getElem?_cons_succ, List.getElem?_nil, List.map_cons, List.map_nil, List.all_cons, List.all_nil, Bool.and_true, Bool.true_and, Bool.and_false, Bool.false_and, Bool.and_self, Bool.not_true, Bool.not_false, Bool.or_true, Bool.or_false, Bool.false_or, Bool.true_or, List.set, List.length_cons, List.length_nil, List.nil_append, List.cons_append, List.append_nil, Nat.reduceAdd, Nat.reduceSub, Nat.reduceMul, Nat.reduceLeDiff, Nat.zero_add, Nat.reduceEqDiff, List.replicate, List.drop, List.take, List.flatMap_cons, List.flatMap_nil, List.foldl_nil, List.foldl_cons, decide_true, decide_false, and_self, and_true, true_and, BEq.rfl, beq_self_eq_true, Option.map_some, Option.map_none, Option.bind_some, Option.bind_none, List.getElem?_toArray, Option.isSome_some, Option.isSome_none, beqs, ne_eq, not_true_eq_false, not_false_eq_true, false_or, or_false, or_self, Nat.reduceLT, false_and, and_false, List.nil_append, evEq, eqc, optO, b_add, b_sub, b_mul, b_eql, b_neq, b_lss, b_leq, b_gtr, b_geq, u_not, flags0, flags1, rs_P, lenms rs_P, Int.natCast_zero, Int.cast_ofNat_Int, Int.natCast_one, show ((1 : Int) == 0) = false from by decide]
    generalize hI2 : (Code.loop _ : Code) = I2
    have inner2 : ∀ (m k : Nat) (y : List Nat) (c : Nat) (t59 : AV), k + m = n + 1 → y.length = n + 1 → Limbs y → c ≤ 1 → val y + c * LB ^ k = val x' + val (v.take k) → (∀ j, k ≤ j → y.getD j 0 = x'.getD j 0) → ∃ (y' : List Nat) (c' : Nat) (t59' : AV),
        WC rsC [true, true, true, true, false, false, false, false, true, true, true, true, true, true, true, true, false, false, false, true, false, false, false, false, false, false, false, false, false, false, false, false, false, false, false, false, false, false, false, false, false, false, false, false, false, false, false, false, false, false, false, false, false, false, false, true, false, false, false, true, false, false, false, false, false, false, false, false, false, false, false, false, false, false, false, false, false, false, false, false, false, false, false, false] I2 ⟨[.ms 0 0 0 L 1, .ms 1 0 0 n 1, .p (.int .i64 (lo.length : Int)), .p (.int .u64 (q : Int)), .p .any, .p .any, .p .any, .p .any, .p (.bool false), .p (.int .u64 1), .p (.int .u64 0), .p (.int .i64 ((n + 1 : Nat) : Int)), t12', t13', .p (.int .u64 (c : Int)), .p (.int .i64 (k : Int)), .p .any, .p .any, .p .any, t19', .p .any, .p .any, .p .any, .p .any, .p .any, .p .any, .p .any, .p .any, .p .any, .p .any, .p .any, .p .any, .p .any, .p .any, .p .any, .p .any, .p .any, .p .any, .p .any, .p .any, .p .any, .p .any, .p .any, .p .any, .p .any, .p .any, .p .any, .p .any, .p .any, .p .any, .p .any, .p .any, .p .any, .p .any, .p .any, .p (.bool false), .p .any, .p .any, .p .any, t59, .p .any, .p .any, .p .any, .p .any, .p .any, .p .any, .p .any, .p .any, .p .any, .p .any, .p .any, .p .any, .p .any, .p .any, .p .any, .p .any, .p .any, .p .any, .p .any, .p .any, .p .any, .p .any, .p .any, .p .any], [⟨0, false, lb (lo ++ y ++ hi)⟩, ⟨0, false, lb vb⟩, B]⟩ = some (.exit 2, ⟨[.ms 0 0 0 L 1, .ms 1 0 0 n 1, .p (.int .i64 (lo.length : Int)), .p (.int .u64 (q : Int)), .p .any, .p .any, .p .any, .p .any, .p (.bool false), .p (.int .u64 1), .p (.int .u64 0), .p (.int .i64 ((n + 1 : Nat) : Int)), t12', t13', .p (.int .u64 (c' : Int)), .p (.int .i64 ((n + 1 : Nat) : Int)), .p .any, .p .any, .p .any, t19', .p .any, .p .any, .p .any, .p .any, .p .any, .p .any, .p .any, .p .any, .p .any, .p .any, .p .any, .p .any, .p .any, .p .any, .p .any, .p .any, .p .any, .p .any, .p .any, .p .any, .p .any, .p .any, .p .any, .p .any, .p .any, .p .any, .p .any, .p .any, .p .any, .p .any, .p .any, .p .any, .p .any, .p .any, .p .any, .p (.bool false), .p .any, .p .any, .p .any, t59', .p .any, .p .any, .p .any, .p .any, .p .any, .p .any, .p .any, .p .any, .p .any, .p .any, .p .any, .p .any, .p .any, .p .any, .p .any, .p .any, .p .any, .p .any, .p .any, .p .any, .p .any, .p .any, .p .any, .p .any], [⟨0, false, lb (lo ++ y' ++ hi)⟩, ⟨0, false, lb vb⟩, B]⟩) ∧ y'.length = n + 1 ∧ Limbs y' ∧ c' ≤ 1 ∧ val y' + c' * LB ^ (n + 1) = val x' + val v := by
      intro m
      induction m with
      | zero =>
        intro k y c t59 hk hy hly hc hv1 hz
        obtain rfl : k = n + 1 := by omega
        have hlt : decide (((n + 1 : Nat) : Int) ≤ (n : Int)) = false := by simp; omega
        refine ⟨y, c, .p (.bool false), ?_, hy, hly, hc, by rw [List.take_of_length_le (by omega)] at hv1; exact hv1⟩
        rw [← hI2, WC_loop, hI2]
        simp only [seqT, thn_normal, thn_ret, thn_exit, WC_region, WC_cond, WC_exit, WC_skip, WC_block, WC_ret, evRegion, Bool.false_eq_true, if_false, if_true, reduceIte, ops_n, ops_c, evStep, wantedA, evOp, opv, putA, ret1, ofVal, ofVal1, cellsOf, AV.isCell, clean, evFieldAddr, evField, evExtract, evBuild, evIndex, evBuiltin, evBuildSlice, evNilCheck, blkRead, mkAgg, mkTup, mapO, AV.pure?, setAt, afill, parts, calleeOf, tell, scalar, scalarL, norm, normL, ids, Go.Ev.mark, evResults, evResult, aggCells, partA, List.getElem?_cons_zero, List.getElem?_cons_succ, List.getElem?_nil, List.map_cons, List.map_nil, List.all_cons, List.all_nil, Bool.and_true, Bool.true_and, Bool.and_false, Bool.false_and, Bool.and_self, Bool.not_true, Bool.not_false, Bool.or_true, Bool.or_false, Bool.false_or, Bool.true_or, List.set, List.length_cons, List.length_nil, List.nil_append, List.cons_append, List.append_nil, Nat.reduceAdd, Nat.reduceSub, Nat.reduceMul, Nat.reduceLeDiff, Nat.zero_add, Nat.reduceEqDiff, List.replicate, List.drop, List.take, List.flatMap_cons, List.flatMap_nil, List.foldl_nil, List.foldl_cons, decide_true, decide_false, and_self, and_true, true_and, BEq.rfl, beq_self_eq_true, Option.map_some, Option.map_none, Option.bind_some, Option.bind_none, List.getElem?_toArray, Option.isSome_some, Option.isSome_none, beqs, ne_eq, not_true_eq_false, not_false_eq_true, false_or, or_false, or_self, Nat.reduceLT, false_and, and_false, List.nil_append, evEq, eqc, optO, b_add, b_sub, b_mul, b_eql, b_neq, b_lss, b_leq, b_gtr, b_geq, u_not, flags0, flags1, rs_P, lenms rs_P, hlt]
      | succ m ih =>
        intro k y c t59 hkm hy hly hc hv1 hz
        have hk : k < n + 1 := by omega
        have hlt : decide ((k : Int) ≤ (n : Int)) = true := by simp; omega
        have hj : k < y.length := by omega
        have hjL : lo.length + k < L := by omega
        have hjl : lo.length + k < (lo ++ y ++ hi).length := by simp; omega
        have hd := hdig k
        have hdl := limbs_getD hlv' k
        have hvt := val_take_next v k
        have hxl := limbs_getD hly k
        have hgm := getD_mid (lo := lo) (hi := hi) hj
        have hld := fun f => ldG (H := [⟨0, f, lb (lo ++ y ++ hi)⟩, ⟨0, false, lb vb⟩, B]) (id := 0) (ver := 0) (fz := f) rfl hjl
        rw [hgm] at hld
        have hvs := fun z => val_set y k z hj
        generalize hdd : v.getD k 0 = d at *
        generalize hgg : y.getD k 0 = g at *
        have hidx : IntKind.i64.wrap ((lo.length : Int) + (k : Int)) = ((lo.length + k : Nat) : Int) := by rw [wrap_i64 (by omega) (by omega)]; omega
        have hg1 := w64 (x := g) (by omega)
        have ha1 : IntKind.u64.wrap ((g : Int) + (d : Int)) = ((g + d : Nat) : Int) := by rw [← Int.natCast_add]; exact w64 (by omega)
        have ha2 : IntKind.u64.wrap (((g + d : Nat) : Int) + (c : Int)) = ((g + d + c : Nat) : Int) := by rw [← Int.natCast_add]; exact w64 (by omega)
        obtain ⟨s, hs⟩ : ∃ s, s = g + d + c := ⟨_, rfl⟩
        rw [← hs] at ha2
        have hsd : s / LB ≤ 1 := by have := Nat.div_lt_of_lt_mul (show s < LB * 2 by omega); omega
        have hk1 := inext (k := k) (by omega)
        have hwu := wrap_u32 s
        have hst := stG (H := [⟨0, false, lb (lo ++ y ++ hi)⟩, ⟨0, false, lb vb⟩, B]) (id := 0) (ver := 0) (j := lo.length + k) (z := s % LB) (o := lo ++ y ++ hi) rfl hjl
        rw [set_mid hj] at hst
        obtain ⟨y', c', t59', h1, h2, h3, h4, h5⟩ := ih (k + 1) (y.set k (s % LB)) (s / LB) (.p (.bool true)) (by omega) (by rw [List.length_set]; exact hy) (limbs_set hly (Nat.mod_lt _ (by decide))) hsd (by
          have hv2 := hvs (s % LB)
          rw [hvt, Nat.pow_succ]
          generalize LB ^ k = P at *
          have e2 := split_mul s P
          have e5 : s * P = g * P + d * P + c * P := by rw [hs, Nat.add_mul, Nat.add_mul]
          omega) (fun j hj => by rw [getD_set_ne (by omega), hz _ (by omega)])
        refine ⟨y', c', t59', ?_, h2, h3, h4, h5⟩
        rw [← hI2, WC_loop, hI2]
        simp only [seqT, thn_normal, thn_ret, thn_exit, WC_region, WC_cond, WC_exit, WC_skip, WC_block, WC_ret, evRegion, Bool.false_eq_true, if_false, if_true, reduceIte, ops_n, ops_c, evStep, wantedA, evOp, opv, putA, ret1, ofVal, ofVal1, cellsOf, AV.isCell, clean, evFieldAddr, evField, evExtract, evBuild, evIndex, evBuiltin, evBuildSlice, evNilCheck, blkRead, mkAgg, mkTup, mapO, AV.pure?, setAt, afill, parts, calleeOf, tell, scalar, scalarL, norm, normL, ids, Go.Ev.mark, evResults, evResult, aggCells, partA, List.getElem?_cons_zero, List.getElem?_cons_succ, List.getElem?_nil, List.map_cons, List.map_nil, List.all_cons, List.all_nil, Bool.and_true, Bool.true_and, Bool.and_false, Bool.false_and, Bool.and_self, Bool.not_true, Bool.not_false, Bool.or_true, Bool.or_false, Bool.false_or, Bool.true_or, List.set, List.length_cons, List.length_nil, List.nil_append, List.cons_append, List.append_nil, Nat.reduceAdd, Nat.reduceSub, Nat.reduceMul, Nat.reduceLeDiff, Nat.zero_add, Nat.reduceEqDiff, List.replicate, List.drop, List.take, List.flatMap_cons, List.flatMap_nil, List.foldl_nil, List.foldl_cons, decide_true, decide_false, and_self, and_true, true_and, BEq.rfl, beq_self_eq_true, Option.map_some, Option.map_none, Option.bind_some, Option.bind_none, List.getElem?_toArray, Option.isSome_some, Option.isSome_none, beqs, ne_eq, not_true_eq_false, not_false_eq_true, false_or, or_false, or_self, Nat.reduceLT, false_and, and_false, List.nil_append, evEq, eqc, optO, b_add, b_sub, b_mul, b_eql, b_neq, b_lss, b_leq, b_gtr, b_geq, u_not, flags0, flags1, rs_P, lenms rs_P, hlt, hfz2, frz_p, hd, b_shr32, hidx, ixms hjL, Nat.zero_add, hld, pu, mulConv, hg1, ha1, ha2, hwu, hst, hk1, flags3, evCall_tab (show ∀ f xs, rsC.O f xs = none from fun _ _ => rfl), show rsC.md 30 = 0 from rfl, normN]
        exact h1
    obtain ⟨y', c', t59', j1, j2, j3, j4, j5⟩ := inner2 (n + 1) 0 x' 0 (.p .und) (by omega) k2 k3 (by omega) (by simp [val]) (fun _ _ => rfl)
    simp only [Int.natCast_zero, Int.cast_ofNat_Int] at j1
    rw [j1]
    have hyb : val y' < LB ^ (n + 1) := by have := val_lt j3; rwa [j2] at this
    have hpw : LB ^ n ≤ LB ^ (n + 1) := Nat.pow_le_pow_right (by decide) (by omega)
    refine ⟨y', ?_, j2, j3, by
      rw [if_neg hdec]
      rcases (show c' = 0 ∨ c' = 1 by omega) with h | h
      · subst h; omega
      · subst h; omega⟩
    simp only [seqT, thn_normal, thn_ret, thn_exit, WC_region, WC_cond, WC_exit, WC_skip, WC_block, WC_ret, evRegion, Bool.false_eq_true, if_false, if_true, reduceIte, ops_n, ops_c, evStep, wantedA, evOp, opv, putA, ret1, ofVal, ofVal1, cellsOf, AV.isCell, clean, evFieldAddr, evField, evExtract, evBuild, evIndex, evBuiltin, evBuildSlice, evNilCheck, blkRead, mkAgg, mkTup, mapO, AV.pure?, setAt, afill, parts, calleeOf, tell, scalar, scalarL, norm, normL, ids, Go.Ev.mark, evResults, evResult, aggCells, partA, List.getElem?_cons_zero, List.getElem?_cons_succ, List.getElem?_nil, List.map_cons, List.map_nil, List.all_cons, List.all_nil, Bool.and_true, Bool.true_and, Bool.and_false, Bool.false_and, Bool.and_self, Bool.not_true, Bool.not_false, Bool.or_true, Bool.or_false, Bool.false_or, Bool.true_or, List.set, List.length_cons, List.length_nil, List.nil_append, List.cons_append, List.append_nil, Nat.reduceAdd, Nat.reduceSub, Nat.reduceMul, Nat.reduceLeDiff, Nat.zero_add, Nat.reduceEqDiff, List.replicate, List.drop, List.take, List.flatMap_cons, List.flatMap_nil, List.foldl_nil, List.foldl_cons, decide_true, decide_false, and_self, and_true, true_and, BEq.rfl, beq_self_eq_true, Option.map_some, Option.map_none, Option.bind_some, Option.bind_none, List.getElem?_toArray, Option.isSome_some, Option.isSome_none, beqs, ne_eq, not_true_eq_false, not_false_eq_true, false_or, or_false, or_self, Nat.reduceLT, false_and, and_false, List.nil_append, evEq, eqc, optO, b_add, b_sub, b_mul, b_eql, b_neq, b_lss, b_leq, b_gtr, b_geq, u_not, flags0, flags1, rs_P, show Try.f50.results = #[.tmp 8] from rfl, fin]
end Go.Proofs
