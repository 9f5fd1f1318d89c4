/- The document's numbers: Div. No condition. -/
import Derived.Test.YtfhhgndppfpngaaRsa08
set_option linter.unusedSimpArgs false
set_option linter.unusedVariables false
set_option linter.unusedSimpArgs false
set_option linter.unusedVariables false
namespace Go.Proofs
open Go.Ev Go.Mx
theorem ownL_lb : ∀ o : List Nat, ownL (lb o) = true
  | [] => rfl
  | x :: o => by
    show (ownA (.p (pu x)) && ownL (lb o)) = true
    rw [ownL_lb o]; rfl
theorem shiftL_lb (k : Nat) : ∀ o : List Nat, shiftL k (lb o) = lb o
  | [] => rfl
  | x :: o => by
    show shift k (.p (pu x)) :: shiftL k (lb o) = _
    rw [shiftL_lb k o]; rfl
theorem frzT {H : List ABlk} {id ver off k : Nat} {o : List Nat} (hH : H[id]? = some ⟨ver, true, lb o⟩) (hk : off + k ≤ o.length) : frz true H deep (.ms id ver off k 1) = some (.sl k false (((o.drop off).take k).map pu)) := by
  have h1 : ((lb o).drop off).take (k * 1) = lb ((o.drop off).take k) := by simp [lb, List.map_drop, List.map_take]
  show (match H[id]? with
    | none => none
    | some B => if B.ver = ver ∧ off + k * 1 ≤ B.cells.length ∧ (true = false ∨ B.fz = true) then
        match mapO (frz true H 5) ((B.cells.drop off).take (k * 1)) with
        | some cs => some (PV.sl k false cs)
        | none => none
      else none) = _
  rw [hH]
  simp only
  rw [if_pos ⟨trivial, by simp [lb]; omega, .inr trivial⟩, h1, mapO_lb]
theorem b_shlw {P : Program} {t : TypeId} {k : IntKind} {x n : Nat} (hn : n < 32) (h : x * 2 ^ n < LB) : evBin P .shl t (.p (.int .u32 (x : Int))) (.p (.int k (n : Int))) = some (.p (.int .u32 ((x * 2 ^ n : Nat) : Int))) := by
  have hLB : LB = 4294967296 := rfl
  have e : min (Int.toNat (n : Int)) IntKind.u32.bits = n := by
    show min (Int.toNat (n : Int)) 32 = n
    omega
  have h2 : (x : Int) * 2 ^ n = ((x * 2 ^ n : Nat) : Int) := by push_cast; rfl
  have h3 : ishift .shl .u32 (x : Int) (n : Int) = some (.int .u32 ((x * 2 ^ n : Nat) : Int)) := by
    unfold ishift
    rw [if_neg (by omega)]
    simp only [e]
    rw [h2, wrapu32, Int.emod_eq_of_lt (by omega) (by omega)]
  simp [evBin, h3]
theorem len_toL : ∀ (k x : Nat), LB ^ k ≤ x → x < LB ^ (k + 1) → (toL x).length = k + 1
  | 0, x, h1, h2 => by
    rw [Nat.pow_zero] at h1
    rw [Nat.zero_add, Nat.pow_one] at h2
    unfold toL
    rw [dif_neg (by omega), Nat.div_eq_of_lt h2]
    unfold toL
    rfl
  | k + 1, x, h1, h2 => by
    have hp : 0 < LB ^ (k + 1) := Nat.pow_pos (by decide)
    unfold toL
    rw [dif_neg (by omega), List.length_cons, len_toL k (x / LB) ((Nat.le_div_iff_mul_le (by decide)).2 (by rw [← Nat.pow_succ]; exact h1)) ((Nat.div_lt_iff_lt_mul (by decide)).2 (by rw [← Nat.pow_succ]; exact h2))]
/-- A number as the program has it: limbs, the last one not nought. -/
def Canon (l : List Nat) : Prop := toL (val l) = l
theorem Canon.limbs {l : List Nat} (h : Canon l) : Limbs l := h ▸ limbs_toL (val l)
theorem canon_toL (x : Nat) : Canon (toL x) := by unfold Canon; rw [val_toL]
theorem Canon.low {l : List Nat} (h : Canon l) {k : Nat} (hk : l.length = k + 1) : LB ^ k ≤ val l := by
  rcases Nat.lt_or_ge (val l) (LB ^ k) with h' | h'
  · exfalso
    have hl : (toL (val l)).length ≤ k := by
      cases k with
      | zero =>
        rw [Nat.pow_zero] at h'
        have : val l = 0 := by omega
        rw [this]; unfold toL; simp
      | succ k =>
        -- the shortest row of so small a number
        clear hk h
        generalize val l = x at *
        clear l
        induction k generalizing x with
        | zero =>
          rcases Nat.eq_zero_or_pos x with h0 | h0
          · rw [h0]; unfold toL; simp
          · rw [len_toL 0 x (by rw [Nat.pow_zero]; exact h0) h']; exact Nat.le_refl _
        | succ k ih =>
          rcases Nat.lt_or_ge x (LB ^ (k + 1)) with h1 | h1
          · have := ih x h1; omega
          · rw [len_toL (k + 1) x h1 h']; exact Nat.le_refl _
    unfold Canon at h
    rw [h] at hl
    omega
  · exact h'
theorem Canon.lt_of_len {a b : List Nat} (ha : Limbs a) (hb : Canon b) (h : a.length < b.length) : val a < val b := by
  obtain ⟨k, hk⟩ : ∃ k, b.length = k + 1 := ⟨b.length - 1, by omega⟩
  have h1 := val_lt ha
  have h2 := hb.low hk
  have h3 : LB ^ a.length ≤ LB ^ k := Nat.pow_le_pow_right (by decide) (by omega)
  omega
set_option maxRecDepth 100000 in
set_option maxHeartbeats 4000000 in
theorem rs_trimG (id : Nat) (fz : Bool) (r : List Nat) (H : List ABlk) (hH : H[id]? = some ⟨0, fz, lb r⟩) (hr : r.length ≤ 1000000) : W rsC 31 [.ms id 0 0 r.length 1] H = some (.ms id 0 0 (trim r).length 1, H) := by
  rw [W_fin (show rsC.md 31 < 9 by decide) Try.func31 rfl]
  rw [show Try.f31.ntmps = 21 from rfl, rs_lv31]
  simp only [N32, List.map_cons, List.map_nil, List.length_cons, List.length_nil, Nat.reduceAdd, Nat.reduceSub, List.replicate, List.cons_append, List.nil_append]
  simp only [seqT, thn_normal, thn_ret, thn_exit, WC_region, WC_cond, WC_exit, WC_skip, WC_block, WC_ret, evRegion, Bool.false_eq_true, if_false, if_true, reduceIte, ops_n, ops_c, evStep, wantedA, evOp, opv, putA, ret1, ofVal, ofVal1, cellsOf, AV.isCell, clean, evFieldAddr, evField, evExtract, evBuild, evIndex, evBuiltin, evBuildSlice, evNilCheck, blkRead, mkAgg, mkTup, mapO, AV.pure?, setAt, afill, parts, calleeOf, tell, scalar, scalarL, frz, norm, normL, ids, Go.Ev.mark, deep, evResults, evResult, aggCells, partA, List.getElem?_cons_zero, List.getElem?_cons_succ, List.getElem?_nil, List.map_cons, List.map_nil, List.all_cons, List.all_nil, Bool.and_true, Bool.true_and, Bool.and_false, Bool.false_and, Bool.and_self, Bool.not_true, Bool.not_false, Bool.or_true, Bool.or_false, Bool.false_or, Bool.true_or, List.set, List.length_cons, List.length_nil, List.nil_append, List.cons_append, List.append_nil, Nat.reduceAdd, Nat.reduceSub, Nat.reduceMul, Nat.reduceLeDiff, Nat.zero_add, Nat.reduceEqDiff, List.replicate, List.drop, List.take, List.flatMap_cons, List.flatMap_nil, List.foldl_nil, List.foldl_cons, decide_true, decide_false, and_self, and_true, true_and, BEq.rfl, beq_self_eq_true, Option.map_some, Option.map_none, Option.bind_some, Option.bind_none, List.getElem?_toArray, Option.isSome_some, Option.isSome_none, beqs, ne_eq, not_true_eq_false, not_false_eq_true, false_or, or_false, or_self, Nat.reduceLT, false_and, and_false, List.nil_append, evEq, eqc, optO, b_add, b_sub, b_mul, b_eql, b_neq, b_lss, b_leq, b_gtr, b_geq, u_not, flags0, flags1, rs_P, lenms rs_P]
  generalize hI : (Code.loop _ : Code) = I
  have key : ∀ (n : Nat) (l t : List Nat), l ++ t = r → l.length = n → ∀ (v : AV), ∃ v', WC rsC [true, false, true, false, false, false, false, false, false, false, false, false, false, false, true, false, false, false, false, false, false] I ⟨[.ms id 0 0 l.length 1, .p .any, .p (.nsl true), .p .any, .p .any, .p .any, .p .any, .p .any, .p .any, .p .any, .p .any, .p .any, .p .any, .p .any, v, .p .any, .p .any, .p .any, .p .any, .p .any, .p .any], H⟩ = some (.exit 0, ⟨[.ms id 0 0 (trim l).length 1, .p .any, .p (.nsl true), .p .any, .p .any, .p .any, .p .any, .p .any, .p .any, .p .any, .p .any, .p .any, .p .any, .p .any, v', .p .any, .p .any, .p .any, .p .any, .p .any, .p .any], H⟩) := by
    intro n
    induction n with
    | zero =>
      intro l t hlt hl v
      obtain rfl := List.length_eq_zero_iff.1 hl
      refine ⟨.p (.bool false), ?_⟩
      rw [← hI, WC_loop, hI]
      simp only [seqT, thn_normal, thn_ret, thn_exit, WC_region, WC_cond, WC_exit, WC_skip, WC_block, WC_ret, evRegion, Bool.false_eq_true, if_false, if_true, reduceIte, ops_n, ops_c, evStep, wantedA, evOp, opv, putA, ret1, ofVal, ofVal1, cellsOf, AV.isCell, clean, evFieldAddr, evField, evExtract, evBuild, evIndex, evBuiltin, evBuildSlice, evNilCheck, blkRead, mkAgg, mkTup, mapO, AV.pure?, setAt, afill, parts, calleeOf, tell, scalar, scalarL, frz, norm, normL, ids, Go.Ev.mark, deep, evResults, evResult, aggCells, partA, List.getElem?_cons_zero, List.getElem?_cons_succ, List.getElem?_nil, List.map_cons, List.map_nil, List.all_cons, List.all_nil, Bool.and_true, Bool.true_and, Bool.and_false, Bool.false_and, Bool.and_self, Bool.not_true, Bool.not_false, Bool.or_true, Bool.or_false, Bool.false_or, Bool.true_or, List.set, List.length_cons, List.length_nil, List.nil_append, List.cons_append, List.append_nil, Nat.reduceAdd, Nat.reduceSub, Nat.reduceMul, Nat.reduceLeDiff, Nat.zero_add, Nat.reduceEqDiff, List.replicate, List.drop, List.take, List.flatMap_cons, List.flatMap_nil, List.foldl_nil, List.foldl_cons, decide_true, decide_false, and_self, and_true, true_and, BEq.rfl, beq_self_eq_true, Option.map_some, Option.map_none, Option.bind_some, Option.bind_none, List.getElem?_toArray, Option.isSome_some, Option.isSome_none, beqs, ne_eq, not_true_eq_false, not_false_eq_true, false_or, or_false, or_self, Nat.reduceLT, false_and, and_false, List.nil_append, evEq, eqc, optO, b_add, b_sub, b_mul, b_eql, b_neq, b_lss, b_leq, b_gtr, b_geq, u_not, flags0, flags1, rs_P, lenms rs_P, Int.natCast_zero, Int.cast_ofNat_Int, show decide ((0 : Int) > 0) = false from by decide, trim_nil]
    | succ n ih =>
      intro l t hlt hl v
      obtain ⟨l', a, rfl⟩ : ∃ l' a, l = l' ++ [a] := by
        rcases List.eq_nil_or_concat l with h | ⟨l', a, h⟩
        · subst h; simp at hl
        · exact ⟨l', a, by simpa using h⟩
      have hl' : l'.length = n := by simpa using hl
      have hln : (l' ++ [a]).length = n + 1 := hl
      have hrl : n < r.length := by rw [← hlt]; simp only [List.length_append, List.length_cons, List.length_nil]; omega
      have hga : r.getD n 0 = a := by
        rw [← hlt, List.getD_eq_getElem?_getD, List.append_assoc, List.getElem?_append_right (by omega), hl']
        simp
      have hgt : decide (((n + 1 : Nat) : Int) > 0) = true := decide_eq_true (by omega)
      have hs1 : IntKind.i64.wrap (((n + 1 : Nat) : Int) - 1) = (n : Int) := by rw [wrap_i64 (by omega) (by omega)]; omega
      have hld := ldG hH (j := n) hrl
      rw [hga] at hld
      by_cases h0 : a = 0
      · subst h0
        have he : (((0 : Nat) : Int) == 0) = true := rfl
        obtain ⟨v', h1⟩ := ih l' (0 :: t) (by simpa using hlt) hl' (.p (.bool true))
        rw [hl'] at h1
        refine ⟨v', ?_⟩
        rw [trim_zero, ← hI, WC_loop, hI, hln]
        simp only [seqT, thn_normal, thn_ret, thn_exit, WC_region, WC_cond, WC_exit, WC_skip, WC_block, WC_ret, evRegion, Bool.false_eq_true, if_false, if_true, reduceIte, ops_n, ops_c, evStep, wantedA, evOp, opv, putA, ret1, ofVal, ofVal1, cellsOf, AV.isCell, clean, evFieldAddr, evField, evExtract, evBuild, evIndex, evBuiltin, evBuildSlice, evNilCheck, blkRead, mkAgg, mkTup, mapO, AV.pure?, setAt, afill, parts, calleeOf, tell, scalar, scalarL, frz, norm, normL, ids, Go.Ev.mark, deep, evResults, evResult, aggCells, partA, List.getElem?_cons_zero, List.getElem?_cons_succ, List.getElem?_nil, List.map_cons, List.map_nil, List.all_cons, List.all_nil, Bool.and_true, Bool.true_and, Bool.and_false, Bool.false_and, Bool.and_self, Bool.not_true, Bool.not_false, Bool.or_true, Bool.or_false, Bool.false_or, Bool.true_or, List.set, List.length_cons, List.length_nil, List.nil_append, List.cons_append, List.append_nil, Nat.reduceAdd, Nat.reduceSub, Nat.reduceMul, Nat.reduceLeDiff, Nat.zero_add, Nat.reduceEqDiff, List.replicate, List.drop, List.take, List.flatMap_cons, List.flatMap_nil, List.foldl_nil, List.foldl_cons, decide_true, decide_false, and_self, and_true, true_and, BEq.rfl, beq_self_eq_true, Option.map_some, Option.map_none, Option.bind_some, Option.bind_none, List.getElem?_toArray, Option.isSome_some, Option.isSome_none, beqs, ne_eq, not_true_eq_false, not_false_eq_true, false_or, or_false, or_self, Nat.reduceLT, false_and, and_false, List.nil_append, evEq, eqc, optO, b_add, b_sub, b_mul, b_eql, b_neq, b_lss, b_leq, b_gtr, b_geq, u_not, flags0, flags1, rs_P, lenms rs_P, hgt, hs1, ixms (show n < n + 1 by omega), hld, pu, Nat.zero_add, sliceToms (show n ≤ n + 1 by omega), he]
        exact h1
      · have he : ((a : Int) == 0) = false := by simp; omega
        refine ⟨.p (.bool false), ?_⟩
        rw [trim_pos l' h0, ← hI, WC_loop, hI, hln]
        simp only [seqT, thn_normal, thn_ret, thn_exit, WC_region, WC_cond, WC_exit, WC_skip, WC_block, WC_ret, evRegion, Bool.false_eq_true, if_false, if_true, reduceIte, ops_n, ops_c, evStep, wantedA, evOp, opv, putA, ret1, ofVal, ofVal1, cellsOf, AV.isCell, clean, evFieldAddr, evField, evExtract, evBuild, evIndex, evBuiltin, evBuildSlice, evNilCheck, blkRead, mkAgg, mkTup, mapO, AV.pure?, setAt, afill, parts, calleeOf, tell, scalar, scalarL, frz, norm, normL, ids, Go.Ev.mark, deep, evResults, evResult, aggCells, partA, List.getElem?_cons_zero, List.getElem?_cons_succ, List.getElem?_nil, List.map_cons, List.map_nil, List.all_cons, List.all_nil, Bool.and_true, Bool.true_and, Bool.and_false, Bool.false_and, Bool.and_self, Bool.not_true, Bool.not_false, Bool.or_true, Bool.or_false, Bool.false_or, Bool.true_or, List.set, List.length_cons, List.length_nil, List.nil_append, List.cons_append, List.append_nil, Nat.reduceAdd, Nat.reduceSub, Nat.reduceMul, Nat.reduceLeDiff, Nat.zero_add, Nat.reduceEqDiff, List.replicate, List.drop, List.take, List.flatMap_cons, List.flatMap_nil, List.foldl_nil, List.foldl_cons, decide_true, decide_false, and_self, and_true, true_and, BEq.rfl, beq_self_eq_true, Option.map_some, Option.map_none, Option.bind_some, Option.bind_none, List.getElem?_toArray, Option.isSome_some, Option.isSome_none, beqs, ne_eq, not_true_eq_false, not_false_eq_true, false_or, or_false, or_self, Nat.reduceLT, false_and, and_false, List.nil_append, evEq, eqc, optO, b_add, b_sub, b_mul, b_eql, b_neq, b_lss, b_leq, b_gtr, b_geq, u_not, flags0, flags1, rs_P, lenms rs_P, hgt, hs1, ixms (show n < n + 1 by omega), hld, pu, Nat.zero_add, sliceToms (show n ≤ n + 1 by omega), he]
  obtain ⟨v', h1⟩ := key r.length r [] (by simp) rfl (.p .und)
  rw [h1]
  simp only [seqT, thn_normal, thn_ret, thn_exit, WC_region, WC_cond, WC_exit, WC_skip, WC_block, WC_ret, evRegion, Bool.false_eq_true, if_false, if_true, reduceIte, ops_n, ops_c, evStep, wantedA, evOp, opv, putA, ret1, ofVal, ofVal1, cellsOf, AV.isCell, clean, evFieldAddr, evField, evExtract, evBuild, evIndex, evBuiltin, evBuildSlice, evNilCheck, blkRead, mkAgg, mkTup, mapO, AV.pure?, setAt, afill, parts, calleeOf, tell, scalar, scalarL, frz, norm, normL, ids, Go.Ev.mark, deep, evResults, evResult, aggCells, partA, List.getElem?_cons_zero, List.getElem?_cons_succ, List.getElem?_nil, List.map_cons, List.map_nil, List.all_cons, List.all_nil, Bool.and_true, Bool.true_and, Bool.and_false, Bool.false_and, Bool.and_self, Bool.not_true, Bool.not_false, Bool.or_true, Bool.or_false, Bool.false_or, Bool.true_or, List.set, List.length_cons, List.length_nil, List.nil_append, List.cons_append, List.append_nil, Nat.reduceAdd, Nat.reduceSub, Nat.reduceMul, Nat.reduceLeDiff, Nat.zero_add, Nat.reduceEqDiff, List.replicate, List.drop, List.take, List.flatMap_cons, List.flatMap_nil, List.foldl_nil, List.foldl_cons, decide_true, decide_false, and_self, and_true, true_and, BEq.rfl, beq_self_eq_true, Option.map_some, Option.map_none, Option.bind_some, Option.bind_none, List.getElem?_toArray, Option.isSome_some, Option.isSome_none, beqs, ne_eq, not_true_eq_false, not_false_eq_true, false_or, or_false, or_self, Nat.reduceLT, false_and, and_false, List.nil_append, evEq, eqc, optO, b_add, b_sub, b_mul, b_eql, b_neq, b_lss, b_leq, b_gtr, b_geq, u_not, flags0, flags1, rs_P, fin, show Try.f31.results = #[.tmp 2] from rfl]
end Go.Proofs
set_option linter.unusedSimpArgs false
set_option linter.unusedVariables false
namespace Go.Proofs
open Go.Ev Go.Mx
/-! ### Knuth's long division, as numbers -/
theorem val_three (lo w hi : List Nat) : val (lo ++ w ++ hi) = val lo + LB ^ lo.length * (val w + LB ^ w.length * val hi) := by
  rw [List.append_assoc, val_append, val_append]
theorem k_hi {lo w hi : List Nat} {V k n : Nat} (hlo : lo.length = k) (hw : w.length = n + 1) (hV : V < LB ^ n) (h : val (lo ++ w ++ hi) < V * LB ^ (k + 1)) : val hi = 0 ∧ val w < LB * V := by
  rw [val_three, hlo, hw] at h
  have hp : 0 < LB ^ k := Nat.pow_pos (by decide)
  have h1 : LB ^ k * (val w + LB ^ (n + 1) * val hi) < LB ^ k * (LB * V) := by
    have e : V * LB ^ (k + 1) = LB ^ k * (LB * V) := by rw [Nat.pow_succ, Nat.mul_comm V, Nat.mul_assoc]
    omega
  have h2 := Nat.lt_of_mul_lt_mul_left h1
  rcases Nat.eq_zero_or_pos (val hi) with h0 | h0
  · rw [h0, Nat.mul_zero] at h2; exact ⟨h0, h2⟩
  · exfalso
    have h3 : LB ^ (n + 1) * 1 ≤ LB ^ (n + 1) * val hi := Nat.mul_le_mul_left _ h0
    have h4 : LB * V ≤ LB * LB ^ n := Nat.mul_le_mul_left _ (Nat.le_of_lt hV)
    rw [Nat.mul_comm LB (LB ^ n), ← Nat.pow_succ] at h4
    change LB * V ≤ LB ^ (n + 1) at h4
    rw [Nat.mul_one] at h3
    omega
theorem k_step {lo w w' hi : List Nat} {V k n d Q U0 : Nat} (hl : Limbs lo) (hlo : lo.length = k) (hw : w.length = n + 1) (hw' : w'.length = n + 1) (hhi : val hi = 0) (hd : val w = d * V + val w') (hlt : val w' < V) (h : val (lo ++ w ++ hi) + Q * V = U0) :
    val (lo ++ w' ++ hi) + (Q + d * LB ^ k) * V = U0 ∧ val (lo ++ w' ++ hi) < V * LB ^ k := by
  rw [val_three, hhi, Nat.mul_zero, Nat.add_zero, hlo] at h ⊢
  have hb := val_lt hl
  rw [hlo] at hb
  constructor
  · rw [← h, hd, Nat.mul_add, Nat.add_mul]
    have e : d * LB ^ k * V = LB ^ k * (d * V) := by rw [Nat.mul_comm d, Nat.mul_assoc]
    omega
  · have h1 : LB ^ k * (val w' + 1) ≤ LB ^ k * V := Nat.mul_le_mul_left _ hlt
    rw [Nat.mul_add, Nat.mul_one] at h1
    rw [Nat.mul_comm V]
    omega
theorem div_scaled {a b s : Nat} (hb : 0 < b) {q r : Nat} (h : r + q * (b * 2 ^ s) = a * 2 ^ s) (hr : r < b * 2 ^ s) : q = a / b ∧ r / 2 ^ s = a % b := by
  have hp := Nat.two_pow_pos s
  have h1 : q = a / b := by
    have e : a * 2 ^ s / (b * 2 ^ s) = a / b := Nat.mul_div_mul_right _ _ hp
    rw [← e, ← h, Nat.add_mul_div_right _ _ (Nat.mul_pos hb hp), Nat.div_eq_of_lt hr, Nat.zero_add]
  refine ⟨h1, ?_⟩
  have h2 := Nat.div_add_mod a b
  have h3 : r = a % b * 2 ^ s := by
    have e : a * 2 ^ s = b * (a / b) * 2 ^ s + a % b * 2 ^ s := by rw [← Nat.add_mul, h2]
    have e2 : q * (b * 2 ^ s) = b * (a / b) * 2 ^ s := by rw [h1, ← Nat.mul_assoc, Nat.mul_comm (a / b)]
    omega
  rw [h3, Nat.mul_div_cancel _ hp]
end Go.Proofs
set_option linter.unusedSimpArgs false
set_option linter.unusedVariables false
namespace Go.Proofs
open Go.Ev Go.Mx
theorem rs_lv34 : rsC.lv 34 = [true, true, false, false, true, true, true, true, true, true, true, true, true, false, false, true, false, false, true, false, false, false, false, false, false, false, false, false, false, false, false, true, false, false, false, false, false, false, false, false, false, false, false, true, false, false, false, false, false, false, false, false, false, false, false, false, false, false, false, false, false, false, false, false, false, false, true, false, false, false, false, false, false, false, false, false, false, false, true, false, false, false, false, false, false, false, false, false, false, false, false, false, false, false] := by kernel_rfl
theorem frzD {H : List ABlk} {d id ver off k : Nat} {fz : Bool} {o : List Nat} (hH : H[id]? = some ⟨ver, fz, lb o⟩) (hk : off + k ≤ o.length) : frz false H (d + 1) (.ms id ver off k 1) = some (.sl k false (((o.drop off).take k).map pu)) := by
  have h1 : ((lb o).drop off).take (k * 1) = lb ((o.drop off).take k) := by simp [lb, List.map_drop, List.map_take]
  show (match H[id]? with
    | none => none
    | some B => if B.ver = ver ∧ off + k * 1 ≤ B.cells.length ∧ (false = false ∨ B.fz = true) then
        match mapO (frz false H d) ((B.cells.drop off).take (k * 1)) with
        | some cs => some (PV.sl k false cs)
        | none => none
      else none) = _
  rw [hH]
  simp only
  rw [if_pos ⟨trivial, by simp [lb]; omega, .inl trivial⟩, h1, mapO_lb]
theorem frz_tup3 {H : List ABlk} {id k : Nat} {fz : Bool} {o : List Nat} {x y : PV} (hH : H[id]? = some ⟨0, fz, lb o⟩) (hk : k ≤ o.length) : frz false H deep (.tup [.ms id 0 0 k 1, .p x, .p y]) = some (.tup [.sl k false ((o.take k).map pu), norm x, norm y]) := by
  have h := frzD (d := 4) hH (off := 0) (k := k) (by omega)
  rw [List.drop_zero] at h
  show (match mapO (frz false H 5) [.ms id 0 0 k 1, .p x, .p y] with
    | some xs => some (PV.tup xs)
    | none => none) = _
  simp only [mapO, h, frz_p]
theorem ids_p {H : List ABlk} {d : Nat} {x : PV} : ids H d (.p x) = [] := by cases d <;> rfl
theorem ids_lb {H : List ABlk} {d : Nat} : ∀ o : List Nat, (lb o).flatMap (ids H d) = []
  | [] => rfl
  | x :: o => by
    have ih := ids_lb (H := H) (d := d) o
    show ids H d (.p (pu x)) ++ (lb o).flatMap (ids H d) = []
    rw [ih, ids_p]; rfl
theorem ids_ms {H : List ABlk} {id ver off k : Nat} {fz : Bool} {o : List Nat} (hH : H[id]? = some ⟨ver, fz, lb o⟩) : ids H deep (.ms id ver off k 1) = [id] := by
  have h1 : ((lb o).drop off).take (k * 1) = lb ((o.drop off).take k) := by simp [lb, List.map_drop, List.map_take]
  show id :: (match H[id]? with
    | none => []
    | some B => ((B.cells.drop off).take (k * 1)).flatMap (ids H 5)) = [id]
  rw [hH]
  simp only [h1, ids_lb]
theorem mark0 {v0 v1 v2 : Nat} {f0 f1 f2 : Bool} {a0 a1 a2 : List AV} : Go.Ev.mark [0] [⟨v0, f0, a0⟩, ⟨v1, f1, a1⟩, ⟨v2, f2, a2⟩] = [⟨v0, true, a0⟩, ⟨v1, f1, a1⟩, ⟨v2, f2, a2⟩] := rfl
theorem flags33 {v0 v1 v2 w0 w1 w2 : Nat} {f0 f1 f2 g0 g1 g2 : Bool} {a0 a1 a2 b0 b1 b2 : List AV} : flags [⟨v0, f0, a0⟩, ⟨v1, f1, a1⟩, ⟨v2, f2, a2⟩] [⟨w0, g0, b0⟩, ⟨w1, g1, b1⟩, ⟨w2, g2, b2⟩] = [⟨v0, f0 || g0, a0⟩, ⟨v1, f1 || g1, a1⟩, ⟨v2, f2 || g2, a2⟩] := rfl
theorem rs_app (a : List Nat) (ha : a ≠ []) (hal : a.length ≤ 100000) : evAppend rsC #[24, 24] (.p (.sl 0 true [])) (.p (.sl a.length false (a.map pu))) [] = some (.ms 0 0 0 a.length 1, [⟨0, false, lb a⟩]) := by
  have h0 : a.length ≠ 0 := by simpa using ha
  have hlb : (List.map AV.p (List.map pu a)) = lb a := by simp [lb]
  have hall : (lb a).all AV.isCell = true := by
    rw [List.all_eq_true]
    intro x hx
    simp only [lb, List.mem_map] at hx
    obtain ⟨y, _, rfl⟩ := hx
    rfl
  have hi : isIntT Try.prog 24 = some false := by kernel_rfl
  have ht : (List.map pu a).take a.length = List.map pu a := List.take_of_length_le (by simp)
  simp only [evAppend, List.getElem?_toArray, List.getElem?_cons_zero, List.getElem?_cons_succ, rs_P, rs_T2, rs_T, evNew, hi, lenOf, srcCells, Nat.mul_one, List.length_map, Nat.le_refl, and_self, if_true, ht, hlb, evAppend2, h0, if_false, List.length_nil, Nat.zero_mul, Nat.zero_add, List.map_nil, List.nil_append, hall, List.all_nil]
  rw [if_neg (by simp), if_pos (by simp; omega)]
theorem canon_nil_val {a : List Nat} (h : Canon a) (h0 : val a = 0) : a = [] := by
  unfold Canon at h
  rw [h0] at h
  rw [← h]; unfold toL; rfl
set_option maxRecDepth 100000 in
set_option maxHeartbeats 4000000 in
theorem rs_div_low (a b : List Nat) (ha : Canon a) (hb : Canon b) (m : Nat) (hbl : b.length = m + 2) (hal : a.length ≤ 90000) (hb9 : b.length ≤ 90000) (hlt : val a < val b) : WP rsC 34 [N32 a, N32 b] = some (.tup [N32 [], N32 a, .bool true]) := by
  have hcmp := rs_cmp a b ha.limbs hb.limbs (by omega) (by omega)
  obtain ⟨z, hz⟩ : ∃ z : Int, z = (if a.length = b.length then cmpN (val a) (val b) else if a.length < b.length then -1 else 1) := ⟨_, rfl⟩
  rw [← hz] at hcmp
  have hzn : decide (z < 0) = true := by
    rw [hz]
    by_cases h1 : a.length = b.length
    · rw [if_pos h1]; unfold cmpN; rw [if_pos hlt]; rfl
    · rw [if_neg h1]
      rcases Nat.lt_or_ge a.length b.length with h2 | h2
      · rw [if_pos h2]; rfl
      · exfalso
        have h3 := Canon.lt_of_len (a := b) (b := a) hb.limbs ha (by omega)
        omega
  have hb0 : ((b.length : Int) == 0) = false := beq_eq_false_iff_ne.2 (by omega)
  have hb1 : ((b.length : Int) == 1) = false := beq_eq_false_iff_ne.2 (by omega)
  simp only [N32] at hcmp
  have hbs : evBuildSlice Try.prog false 24 0 [] [] = some (.p (.sl 0 true []), []) := by kernel_rfl
  rw [WP_eq (show rsC.md 34 < 9 by decide) Try.func34 rfl]
  rw [show Try.f34.ntmps = 94 from rfl, rs_lv34]
  simp only [N32, List.map_cons, List.map_nil, List.length_cons, List.length_nil, Nat.reduceAdd, Nat.reduceSub, List.replicate, List.cons_append, List.nil_append]
  by_cases h0 : a = []
  · subst h0
    have happ : evAppend rsC #[24, 24] (.p (.sl 0 true [])) (.p (.sl 0 false [])) [] = some (.p (.sl 0 true []), []) := by kernel_rfl
    simp only [List.length_nil, List.map_nil, Int.natCast_zero] at hcmp ⊢
    simp only [seqT, thn_normal, thn_ret, thn_exit, WC_region, WC_cond, WC_exit, WC_skip, WC_block, WC_ret, evRegion, Bool.false_eq_true, if_false, if_true, reduceIte, ops_n, ops_c, evStep, wantedA, evOp, opv, putA, ret1, ofVal, ofVal1, cellsOf, AV.isCell, clean, evFieldAddr, evField, evExtract, evBuild, evIndex, evBuiltin, evNilCheck, blkRead, mkAgg, mkTup, mapO, AV.pure?, setAt, afill, parts, calleeOf, tell, scalar, scalarL, norm, normL, ids, Go.Ev.mark, evResults, evResult, aggCells, partA, List.getElem?_cons_zero, List.getElem?_cons_succ, List.getElem?_nil, List.map_cons, List.map_nil, List.all_cons, List.all_nil, Bool.and_true, Bool.true_and, Bool.and_false, Bool.false_and, Bool.and_self, Bool.not_true, Bool.not_false, Bool.or_true, Bool.or_false, Bool.false_or, Bool.true_or, List.set, List.length_cons, List.length_nil, List.nil_append, List.cons_append, List.append_nil, Nat.reduceAdd, Nat.reduceSub, Nat.reduceMul, Nat.reduceLeDiff, Nat.zero_add, Nat.reduceEqDiff, List.replicate, List.drop, List.take, List.flatMap_cons, List.flatMap_nil, List.foldl_nil, List.foldl_cons, decide_true, decide_false, and_self, and_true, true_and, BEq.rfl, beq_self_eq_true, Option.map_some, Option.map_none, Option.bind_some, Option.bind_none, List.getElem?_toArray, Option.isSome_some, Option.isSome_none, beqs, ne_eq, not_true_eq_false, not_false_eq_true, false_or, or_false, or_self, Nat.reduceLT, false_and, and_false, List.nil_append, evEq, eqc, optO, b_add, b_sub, b_mul, b_eql, b_neq, b_lss, b_leq, b_gtr, b_geq, u_not, flags0, flags1, rs_P, len32 rs_P, hb0, hb1, hcmp, hzn, show rsC.md 32 = 0 from rfl, evCall_tab (show ∀ f xs, rsC.O f xs = none from fun _ _ => rfl), normN, happ, frz_p, show Try.f34.results = #[.tmp 4, .tmp 5, .tmp 6] from rfl, hbs]
  · have happ := rs_app a h0 (by omega)
    have hfz := frzD (H := [⟨0, false, lb a⟩]) (d := 4) (id := 0) (ver := 0) (off := 0) (k := a.length) (fz := false) (o := a) rfl (by omega)
    rw [List.drop_zero, List.take_of_length_le (Nat.le_refl _)] at hfz
    have hft : ∀ x y : PV, frz false [⟨0, false, lb a⟩] deep (.tup [.p x, .ms 0 0 0 a.length 1, .p y]) = some (.tup [norm x, .sl a.length false (a.map pu), norm y]) := fun x y => by
      show (match mapO (frz false [⟨0, false, lb a⟩] 5) [.p x, .ms 0 0 0 a.length 1, .p y] with
        | some xs => some (PV.tup xs)
        | none => none) = _
      simp only [mapO, hfz, frz_p]
    simp only [seqT, thn_normal, thn_ret, thn_exit, WC_region, WC_cond, WC_exit, WC_skip, WC_block, WC_ret, evRegion, Bool.false_eq_true, if_false, if_true, reduceIte, ops_n, ops_c, evStep, wantedA, evOp, opv, putA, ret1, ofVal, ofVal1, cellsOf, AV.isCell, clean, evFieldAddr, evField, evExtract, evBuild, evIndex, evBuiltin, evNilCheck, blkRead, mkAgg, mkTup, mapO, AV.pure?, setAt, afill, parts, calleeOf, tell, scalar, scalarL, norm, normL, ids, Go.Ev.mark, evResults, evResult, aggCells, partA, List.getElem?_cons_zero, List.getElem?_cons_succ, List.getElem?_nil, List.map_cons, List.map_nil, List.all_cons, List.all_nil, Bool.and_true, Bool.true_and, Bool.and_false, Bool.false_and, Bool.and_self, Bool.not_true, Bool.not_false, Bool.or_true, Bool.or_false, Bool.false_or, Bool.true_or, List.set, List.length_cons, List.length_nil, List.nil_append, List.cons_append, List.append_nil, Nat.reduceAdd, Nat.reduceSub, Nat.reduceMul, Nat.reduceLeDiff, Nat.zero_add, Nat.reduceEqDiff, List.replicate, List.drop, List.take, List.flatMap_cons, List.flatMap_nil, List.foldl_nil, List.foldl_cons, decide_true, decide_false, and_self, and_true, true_and, BEq.rfl, beq_self_eq_true, Option.map_some, Option.map_none, Option.bind_some, Option.bind_none, List.getElem?_toArray, Option.isSome_some, Option.isSome_none, beqs, ne_eq, not_true_eq_false, not_false_eq_true, false_or, or_false, or_self, Nat.reduceLT, false_and, and_false, List.nil_append, evEq, eqc, optO, b_add, b_sub, b_mul, b_eql, b_neq, b_lss, b_leq, b_gtr, b_geq, u_not, flags0, flags1, rs_P, len32 rs_P, hb0, hb1, hcmp, hzn, show rsC.md 32 = 0 from rfl, evCall_tab (show ∀ f xs, rsC.O f xs = none from fun _ _ => rfl), normN, happ, frz_p, show Try.f34.results = #[.tmp 4, .tmp 5, .tmp 6] from rfl, hbs, hft]
end Go.Proofs
set_option linter.unusedSimpArgs false
set_option linter.unusedVariables false
namespace Go.Proofs
open Go.Ev Go.Mx
theorem mod0 {x y z : ABlk} {f : ABlk → ABlk} : [x, y, z].modify 0 f = [f x, y, z] := rfl
set_option maxRecDepth 100000 in
set_option maxHeartbeats 4000000 in
theorem rs_div_high (a b : List Nat) (ha : Canon a) (hb : Canon b) (m : Nat) (hbl : b.length = m + 2) (hal : a.length ≤ 90000) (hb9 : b.length ≤ 90000) (hge : val b ≤ val a) : WP rsC 34 [N32 a, N32 b] = some (.tup [N32 (toL (val a / val b)), N32 (toL (val a % val b)), .bool true]) := by
  have hLB : LB = 4294967296 := rfl
  obtain ⟨LH, hLH⟩ : ∃ x : Int, x = 2147483648 := ⟨_, rfl⟩
  have hcmp := rs_cmp a b ha.limbs hb.limbs (by omega) (by omega)
  obtain ⟨z, hz⟩ : ∃ z : Int, z = (if a.length = b.length then cmpN (val a) (val b) else if a.length < b.length then -1 else 1) := ⟨_, rfl⟩
  rw [← hz] at hcmp
  have hlen : b.length ≤ a.length := by
    rcases Nat.lt_or_ge a.length b.length with h2 | h2
    · exfalso
      have h3 := Canon.lt_of_len (a := a) (b := b) ha.limbs hb (by omega)
      omega
    · exact h2
  have hzn : decide (z < 0) = false := by
    rw [hz]
    by_cases h1 : a.length = b.length
    · rw [if_pos h1]; unfold cmpN; rw [if_neg (by omega)]; split <;> rfl
    · rw [if_neg h1, if_neg (by omega)]; rfl
  have hb0 : ((b.length : Int) == 0) = false := beq_eq_false_iff_ne.2 (by omega)
  have hb1 : ((b.length : Int) == 1) = false := beq_eq_false_iff_ne.2 (by omega)
  simp only [N32] at hcmp
  -- the divisor's highest digit
  have hblow := hb.low (k := m + 1) (by omega)
  have htv : val b = val (b.take (m + 1)) + b.getD (m + 1) 0 * LB ^ (m + 1) := by
    have h := val_take_succ b (m + 1) (by omega)
    rw [List.take_of_length_le (by omega)] at h
    exact h
  have hbt := low_lt hb.limbs (m := m + 1) (by omega)
  have htl := limbs_getD hb.limbs (m + 1)
  have htix := ix32 (l := b) (x := false) (i := m + 1) (by omega)
  have htld := fun H => ld32 (l := b) (i := m + 1) (H := H) (by omega)
  have i1 : IntKind.i64.wrap ((b.length : Int) - 1) = ((m + 1 : Nat) : Int) := by rw [wrap_i64 (by omega) (by omega)]; omega
  generalize b.getD (m + 1) 0 = top at *
  have htop1 : 1 ≤ top := by
    rcases Nat.eq_zero_or_pos top with h | h
    · exfalso; rw [h, Nat.zero_mul] at htv; omega
    · exact h
  rw [WP_eq (show rsC.md 34 < 9 by decide) Try.func34 rfl]
  rw [show Try.f34.ntmps = 94 from rfl, rs_lv34]
  simp only [N32, List.map_cons, List.map_nil, List.length_cons, List.length_nil, Nat.reduceAdd, Nat.reduceSub, List.replicate, List.cons_append, List.nil_append]
  simp only [seqT, thn_normal, thn_ret, thn_exit, WC_region, WC_cond, WC_exit, WC_skip, WC_block, WC_ret, evRegion, Bool.false_eq_true, if_false, if_true, reduceIte, ops_n, ops_c, evStep, wantedA, evOp, opv, putA, ret1, ofVal, ofVal1, cellsOf, AV.isCell, clean, evFieldAddr, evField, evExtract, evBuild, evIndex, evBuiltin, evBuildSlice, evNilCheck, blkRead, mkAgg, mkTup, mapO, AV.pure?, setAt, afill, parts, calleeOf, tell, scalar, scalarL, norm, normL, ids, Go.Ev.mark, evResults, evResult, aggCells, partA, List.getElem?_cons_zero, List.getElem?_cons_succ, List.getElem?_nil, List.map_cons, List.map_nil, List.all_cons, List.all_nil, Bool.and_true, Bool.true_and, Bool.and_false, Bool.false_and, Bool.and_self, Bool.not_true, Bool.not_false, Bool.or_true, Bool.or_false, Bool.false_or, Bool.true_or, List.set, List.length_cons, List.length_nil, List.nil_append, List.cons_append, List.append_nil, Nat.reduceAdd, Nat.reduceSub, Nat.reduceMul, Nat.reduceLeDiff, Nat.zero_add, Nat.reduceEqDiff, List.replicate, List.drop, List.take, List.flatMap_cons, List.flatMap_nil, List.foldl_nil, List.foldl_cons, decide_true, decide_false, and_self, and_true, true_and, BEq.rfl, beq_self_eq_true, Option.map_some, Option.map_none, Option.bind_some, Option.bind_none, List.getElem?_toArray, Option.isSome_some, Option.isSome_none, beqs, ne_eq, not_true_eq_false, not_false_eq_true, false_or, or_false, or_self, Nat.reduceLT, false_and, and_false, List.nil_append, evEq, eqc, optO, b_add, b_sub, b_mul, b_eql, b_neq, b_lss, b_leq, b_gtr, b_geq, u_not, flags0, flags1, rs_P, len32 rs_P, hb0, hb1, hcmp, hzn, show rsC.md 32 = 0 from rfl, evCall_tab (show ∀ f xs, rsC.O f xs = none from fun _ _ => rfl), normN, frz_p, i1]
  generalize hI : (Code.loop _ : Code) = I
  have inner : ∀ (j s : Nat) (t43 : AV), s + j = 31 → top * 2 ^ s < LB → ∃ (s' : Nat) (t43' : AV), WC rsC [true, true, false, false, true, true, true, true, true, true, true, true, true, false, false, true, false, false, true, false, false, false, false, false, false, false, false, false, false, false, false, true, false, false, false, false, false, false, false, false, false, false, false, true, false, false, false, false, false, false, false, false, false, false, false, false, false, false, false, false, false, false, false, false, false, false, true, false, false, false, false, false, false, false, false, false, false, false, true, false, false, false, false, false, false, false, false, false, false, false, false, false, false, false] I ⟨[.p (.sl a.length false (a.map pu)), .p (.sl b.length false (b.map pu)), .p .any, .p .any, .p (.nsl true), .p (.nsl true), .p (.bool false), .p (.int .u64 (s : Int)), .p .und, .p .und, .p .und, .p .und, .p .und, .p .any, .p .any, .p (.bool false), .p .any, .p .any, .p (.bool false), .p .any, .p .any, .p .any, .p .any, .p .any, .p .any, .p .any, .p .any, .p .any, .p .any, .p .any, .p .any, .p (.bool false), .p .any, .p .any, .p .any, .p .any, .p .any, .p .any, .p .any, .p .any, .p .any, .p .any, .p .any, t43, .p .any, .p .any, .p .any, .p .any, .p .any, .p .any, .p .any, .p .any, .p .any, .p .any, .p .any, .p .any, .p .any, .p .any, .p .any, .p .any, .p .any, .p .any, .p .any, .p .any, .p .any, .p .any, .p .und, .p .any, .p .any, .p .any, .p .any, .p .any, .p .any, .p .any, .p .any, .p .any, .p .any, .p .any, .p .und, .p .any, .p .any, .p .any, .p .any, .p .any, .p .any, .p .any, .p .any, .p .any, .p .any, .p .any, .p .any, .p .any, .p .any, .p .any], []⟩ = some (.exit 0, ⟨[.p (.sl a.length false (a.map pu)), .p (.sl b.length false (b.map pu)), .p .any, .p .any, .p (.nsl true), .p (.nsl true), .p (.bool false), .p (.int .u64 (s' : Int)), .p .und, .p .und, .p .und, .p .und, .p .und, .p .any, .p .any, .p (.bool false), .p .any, .p .any, .p (.bool false), .p .any, .p .any, .p .any, .p .any, .p .any, .p .any, .p .any, .p .any, .p .any, .p .any, .p .any, .p .any, .p (.bool false), .p .any, .p .any, .p .any, .p .any, .p .any, .p .any, .p .any, .p .any, .p .any, .p .any, .p .any, t43', .p .any, .p .any, .p .any, .p .any, .p .any, .p .any, .p .any, .p .any, .p .any, .p .any, .p .any, .p .any, .p .any, .p .any, .p .any, .p .any, .p .any, .p .any, .p .any, .p .any, .p .any, .p .any, .p .und, .p .any, .p .any, .p .any, .p .any, .p .any, .p .any, .p .any, .p .any, .p .any, .p .any, .p .any, .p .und, .p .any, .p .any, .p .any, .p .any, .p .any, .p .any, .p .any, .p .any, .p .any, .p .any, .p .any, .p .any, .p .any, .p .any, .p .any], []⟩) ∧ s' < 32 ∧ top * 2 ^ s' < LB ∧ LB ≤ 2 * (top * 2 ^ s') := by
    intro j
    induction j with
    | zero =>
      intro s t43 hs hlt
      obtain rfl : s = 31 := by omega
      have hp : (2 : Nat) ^ 31 = 2147483648 := by decide
      obtain ⟨X, hX⟩ : ∃ X, X = top * 2 ^ 31 := ⟨_, rfl⟩
      have hXg : 2147483648 ≤ X := by rw [hX, hp]; omega
      have hd : decide ((X : Int) < 2147483648) = false := decide_eq_false (by omega)
      have hsh := fun (P : Program) (t : TypeId) (k : IntKind) => b_shlw (P := P) (t := t) (k := k) (x := top) (n := 31) (by omega) hlt
      rw [← hX] at hsh hlt
      refine ⟨31, .p (.bool false), ?_, by omega, by omega, by omega⟩
      obtain ⟨s31, hs31⟩ : ∃ x : Int, x = ((31 : Nat) : Int) := ⟨_, rfl⟩
      rw [← hI, WC_loop, hI]
      rw [← hLH] at hd ⊢
      rw [← hs31] at hsh ⊢
      simp only [seqT, thn_normal, thn_ret, thn_exit, WC_region, WC_cond, WC_exit, WC_skip, WC_block, WC_ret, evRegion, Bool.false_eq_true, if_false, if_true, reduceIte, ops_n, ops_c, evStep, wantedA, evOp, opv, putA, ret1, ofVal, ofVal1, cellsOf, AV.isCell, clean, evFieldAddr, evField, evExtract, evBuild, evIndex, evBuiltin, evBuildSlice, evNilCheck, blkRead, mkAgg, mkTup, mapO, AV.pure?, setAt, afill, parts, calleeOf, tell, scalar, scalarL, frz, norm, normL, ids, Go.Ev.mark, deep, evResults, evResult, aggCells, partA, List.getElem?_cons_zero, List.getElem?_cons_succ, List.getElem?_nil, List.map_cons, List.map_nil, List.all_cons, List.all_nil, Bool.and_true, Bool.true_and, Bool.and_false, Bool.false_and, Bool.and_self, Bool.not_true, Bool.not_false, Bool.or_true, Bool.or_false, Bool.false_or, Bool.true_or, List.set, List.length_cons, List.length_nil, List.nil_append, List.cons_append, List.append_nil, Nat.reduceAdd, Nat.reduceSub, Nat.reduceMul, Nat.reduceLeDiff, Nat.zero_add, Nat.reduceEqDiff, List.replicate, List.drop, List.take, List.flatMap_cons, List.flatMap_nil, List.foldl_nil, List.foldl_cons, decide_true, decide_false, and_self, and_true, true_and, BEq.rfl, beq_self_eq_true, Option.map_some, Option.map_none, Option.bind_some, Option.bind_none, List.getElem?_toArray, Option.isSome_some, Option.isSome_none, beqs, ne_eq, not_true_eq_false, not_false_eq_true, false_or, or_false, or_self, Nat.reduceLT, false_and, and_false, List.nil_append, evEq, eqc, optO, b_add, b_sub, b_mul, b_eql, b_neq, b_lss, b_leq, b_gtr, b_geq, u_not, flags0, flags1, rs_P, len32 rs_P, i1, htix, htld, pu, hsh, hd]
    | succ j ih =>
      intro s t43 hs hlt
      obtain ⟨X, hX⟩ : ∃ X, X = top * 2 ^ s := ⟨_, rfl⟩
      have hsh := fun (P : Program) (t : TypeId) (k : IntKind) => b_shlw (P := P) (t := t) (k := k) (x := top) (n := s) (by omega) hlt
      rw [← hX] at hsh hlt
      have hs1 : IntKind.u64.wrap ((s : Int) + 1) = ((s + 1 : Nat) : Int) := w64 (x := s + 1) (by omega)
      rcases Nat.lt_or_ge X 2147483648 with h | h
      · have hd : decide ((X : Int) < 2147483648) = true := decide_eq_true (by omega)
        obtain ⟨s', t43', h1, h2⟩ := ih (s + 1) (.p (.bool true)) (by omega) (by rw [Nat.pow_succ, ← Nat.mul_assoc, ← hX]; omega)
        refine ⟨s', t43', ?_, h2⟩
        rw [← hI, WC_loop, hI]
        rw [← hLH] at hd ⊢
        simp only [seqT, thn_normal, thn_ret, thn_exit, WC_region, WC_cond, WC_exit, WC_skip, WC_block, WC_ret, evRegion, Bool.false_eq_true, if_false, if_true, reduceIte, ops_n, ops_c, evStep, wantedA, evOp, opv, putA, ret1, ofVal, ofVal1, cellsOf, AV.isCell, clean, evFieldAddr, evField, evExtract, evBuild, evIndex, evBuiltin, evBuildSlice, evNilCheck, blkRead, mkAgg, mkTup, mapO, AV.pure?, setAt, afill, parts, calleeOf, tell, scalar, scalarL, frz, norm, normL, ids, Go.Ev.mark, deep, evResults, evResult, aggCells, partA, List.getElem?_cons_zero, List.getElem?_cons_succ, List.getElem?_nil, List.map_cons, List.map_nil, List.all_cons, List.all_nil, Bool.and_true, Bool.true_and, Bool.and_false, Bool.false_and, Bool.and_self, Bool.not_true, Bool.not_false, Bool.or_true, Bool.or_false, Bool.false_or, Bool.true_or, List.set, List.length_cons, List.length_nil, List.nil_append, List.cons_append, List.append_nil, Nat.reduceAdd, Nat.reduceSub, Nat.reduceMul, Nat.reduceLeDiff, Nat.zero_add, Nat.reduceEqDiff, List.replicate, List.drop, List.take, List.flatMap_cons, List.flatMap_nil, List.foldl_nil, List.foldl_cons, decide_true, decide_false, and_self, and_true, true_and, BEq.rfl, beq_self_eq_true, Option.map_some, Option.map_none, Option.bind_some, Option.bind_none, List.getElem?_toArray, Option.isSome_some, Option.isSome_none, beqs, ne_eq, not_true_eq_false, not_false_eq_true, false_or, or_false, or_self, Nat.reduceLT, false_and, and_false, List.nil_append, evEq, eqc, optO, b_add, b_sub, b_mul, b_eql, b_neq, b_lss, b_leq, b_gtr, b_geq, u_not, flags0, flags1, rs_P, len32 rs_P, i1, htix, htld, pu, hsh, hd, hs1]
        exact h1
      · have hd : decide ((X : Int) < 2147483648) = false := decide_eq_false (by omega)
        refine ⟨s, .p (.bool false), ?_, by omega, by omega, by omega⟩
        rw [← hI, WC_loop, hI]
        rw [← hLH] at hd ⊢
        simp only [seqT, thn_normal, thn_ret, thn_exit, WC_region, WC_cond, WC_exit, WC_skip, WC_block, WC_ret, evRegion, Bool.false_eq_true, if_false, if_true, reduceIte, ops_n, ops_c, evStep, wantedA, evOp, opv, putA, ret1, ofVal, ofVal1, cellsOf, AV.isCell, clean, evFieldAddr, evField, evExtract, evBuild, evIndex, evBuiltin, evBuildSlice, evNilCheck, blkRead, mkAgg, mkTup, mapO, AV.pure?, setAt, afill, parts, calleeOf, tell, scalar, scalarL, frz, norm, normL, ids, Go.Ev.mark, deep, evResults, evResult, aggCells, partA, List.getElem?_cons_zero, List.getElem?_cons_succ, List.getElem?_nil, List.map_cons, List.map_nil, List.all_cons, List.all_nil, Bool.and_true, Bool.true_and, Bool.and_false, Bool.false_and, Bool.and_self, Bool.not_true, Bool.not_false, Bool.or_true, Bool.or_false, Bool.false_or, Bool.true_or, List.set, List.length_cons, List.length_nil, List.nil_append, List.cons_append, List.append_nil, Nat.reduceAdd, Nat.reduceSub, Nat.reduceMul, Nat.reduceLeDiff, Nat.zero_add, Nat.reduceEqDiff, List.replicate, List.drop, List.take, List.flatMap_cons, List.flatMap_nil, List.foldl_nil, List.foldl_cons, decide_true, decide_false, and_self, and_true, true_and, BEq.rfl, beq_self_eq_true, Option.map_some, Option.map_none, Option.bind_some, Option.bind_none, List.getElem?_toArray, Option.isSome_some, Option.isSome_none, beqs, ne_eq, not_true_eq_false, not_false_eq_true, false_or, or_false, or_self, Nat.reduceLT, false_and, and_false, List.nil_append, evEq, eqc, optO, b_add, b_sub, b_mul, b_eql, b_neq, b_lss, b_leq, b_gtr, b_geq, u_not, flags0, flags1, rs_P, len32 rs_P, i1, htix, htld, pu, hsh, hd]
  obtain ⟨s, t43', k1, ks, ktop, ktop2⟩ := inner 31 0 (.p .und) (by omega) (by rw [Nat.pow_zero, Nat.mul_one]; exact htl)
  simp only [Int.natCast_zero, Int.cast_ofNat_Int] at k1
  rw [k1]
  clear inner k1 hI
  -- moved up
  obtain ⟨u0, hu1, hu2, hu3, hu4⟩ := rs_shifted a ha.limbs (by omega) s ks
  obtain ⟨v0, hv1, hv2, hv3, hv4⟩ := rs_shifted b hb.limbs (by omega) s ks
  simp only [N32] at hu1 hv1
  have hp2 := Nat.two_pow_pos s
  obtain ⟨V, hV⟩ : ∃ V, V = val b * 2 ^ s := ⟨_, rfl⟩
  obtain ⟨U0, hU0⟩ : ∃ U0, U0 = val a * 2 ^ s := ⟨_, rfl⟩
  rw [← hV] at hv4
  rw [← hU0] at hu4
  have hVlt : V < LB ^ (m + 2) := by
    have h1 : V < (top + 1) * LB ^ (m + 1) * 2 ^ s := by
      rw [hV]
      exact Nat.mul_lt_mul_of_pos_right (by rw [htv, Nat.add_mul, Nat.one_mul]; omega) hp2
    have h2 : (top + 1) * 2 ^ s ≤ LB := by
      have hpow : LB = 2 ^ (32 - s) * 2 ^ s := by rw [← Nat.pow_add]; show LB = 2 ^ (32 - s + s); rw [show 32 - s + s = 32 by omega]; rfl
      rw [hpow] at ktop ⊢
      exact Nat.mul_le_mul_right _ (Nat.lt_of_mul_lt_mul_right ktop)
    have h3 : (top + 1) * LB ^ (m + 1) * 2 ^ s = (top + 1) * 2 ^ s * LB ^ (m + 1) := Nat.mul_right_comm _ _ _
    have h4 : (top + 1) * 2 ^ s * LB ^ (m + 1) ≤ LB * LB ^ (m + 1) := Nat.mul_le_mul_right _ h2
    rw [Nat.mul_comm LB, ← Nat.pow_succ] at h4
    change _ ≤ LB ^ (m + 2) at h4
    omega
  have hVge : top * 2 ^ s * LB ^ (m + 1) ≤ V := by
    rw [hV, htv, Nat.add_mul]
    have : top * LB ^ (m + 1) * 2 ^ s = top * 2 ^ s * LB ^ (m + 1) := Nat.mul_right_comm _ _ _
    omega
  obtain ⟨v, hv⟩ : ∃ v, v = v0.take (m + 2) := ⟨_, rfl⟩
  have htrim : trim v0 = toL V := by rw [trim_toL hv2, hv4]
  have hVlow : LB ^ (m + 1) ≤ V := by
    have : 1 * LB ^ (m + 1) ≤ top * 2 ^ s * LB ^ (m + 1) := Nat.mul_le_mul_right _ (Nat.mul_pos htop1 hp2)
    omega
  have htlen : (trim v0).length = m + 2 := by rw [htrim]; exact len_toL (m + 1) V hVlow hVlt
  have hvt : v = trim v0 := by rw [hv, ← htlen]; exact trim_take v0
  have hvl : v.length = m + 2 := by rw [hvt, htlen]
  have hvlim : Limbs v := fun x hx => hv2 x (List.mem_of_mem_take (hv ▸ hx))
  have hvv : val v = V := by rw [hvt, htrim, val_toL]
  have hvtop : LB ≤ 2 * v.getD (m + 1) 0 := by
    have h1 := val_take_succ v (m + 1) (by omega)
    rw [List.take_of_length_le (by omega), hvv] at h1
    have h2 := low_lt hvlim (m := m + 1) (by omega)
    have h3 : top * 2 ^ s * LB ^ (m + 1) < (v.getD (m + 1) 0 + 1) * LB ^ (m + 1) := by rw [Nat.add_mul, Nat.one_mul]; omega
    have h4 := Nat.lt_of_mul_lt_mul_right h3
    omega
  have htrg := rs_trimG 1 false v0 [⟨0, false, lb u0⟩, ⟨0, false, lb v0⟩] rfl (by omega)
  rw [hv3, htlen] at htrg
  obtain ⟨M, hM⟩ : ∃ M, a.length = M + (m + 2) := ⟨a.length - (m + 2), by omega⟩
  have j1 : IntKind.i64.wrap ((a.length : Int) - (b.length : Int)) = (M : Int) := by rw [wrap_i64 (by omega) (by omega)]; omega
  have j2 := inext (k := M) (by omega)
  obtain ⟨K, hK⟩ : ∃ K, K = M + 1 := ⟨_, rfl⟩
  rw [← hK] at j2
  have hmk := fun H => mk32 (n := K) (by omega) (H := H)
  have c1 : 1 ≤ b.length + 1 := by omega
  simp only [seqT, thn_normal, thn_ret, thn_exit, WC_region, WC_cond, WC_exit, WC_skip, WC_block, WC_ret, evRegion, Bool.false_eq_true, if_false, if_true, reduceIte, ops_n, ops_c, evStep, wantedA, evOp, opv, putA, ret1, ofVal, ofVal1, cellsOf, AV.isCell, clean, evFieldAddr, evField, evExtract, evBuild, evIndex, evBuiltin, evBuildSlice, evNilCheck, blkRead, mkAgg, mkTup, mapO, AV.pure?, setAt, afill, parts, calleeOf, tell, scalar, scalarL, norm, normL, ids, Go.Ev.mark, evResults, evResult, aggCells, partA, List.getElem?_cons_zero, List.getElem?_cons_succ, List.getElem?_nil, List.map_cons, List.map_nil, List.all_cons, List.all_nil, Bool.and_true, Bool.true_and, Bool.and_false, Bool.false_and, Bool.and_self, Bool.not_true, Bool.not_false, Bool.or_true, Bool.or_false, Bool.false_or, Bool.true_or, List.set, List.length_cons, List.length_nil, List.nil_append, List.cons_append, List.append_nil, Nat.reduceAdd, Nat.reduceSub, Nat.reduceMul, Nat.reduceLeDiff, Nat.zero_add, Nat.reduceEqDiff, List.replicate, List.drop, List.take, List.flatMap_cons, List.flatMap_nil, List.foldl_nil, List.foldl_cons, decide_true, decide_false, and_self, and_true, true_and, BEq.rfl, beq_self_eq_true, Option.map_some, Option.map_none, Option.bind_some, Option.bind_none, List.getElem?_toArray, Option.isSome_some, Option.isSome_none, beqs, ne_eq, not_true_eq_false, not_false_eq_true, false_or, or_false, or_self, Nat.reduceLT, false_and, and_false, List.nil_append, evEq, eqc, optO, b_add, b_sub, b_mul, b_eql, b_neq, b_lss, b_leq, b_gtr, b_geq, u_not, flags0, flags1, rs_P, len32 rs_P, i1, j1, j2, hmk, evCall_own (C := rsC) (f := 48) (fun _ => rfl) (show rsC.md 48 = 1 from rfl), hu1, hv1, frz_p, normN, ownA, ownL_lb, shift, shiftB, shiftL_lb, Nat.add_zero, Nat.zero_add, show rsC.md 48 = 1 from rfl, show rsC.md 31 = 2 from rfl, evCall_mem (show rsC.md 31 = 2 from rfl), htrg]
  generalize hI2 : (Code.loop _ : Code) = I2
  have inner2 : ∀ (k : Nat) (u q : List Nat) (t12 t66 t78 : AV), k ≤ K → u.length = a.length + 1 → Limbs u → q.length = K → Limbs q → val u + val q * V = U0 → val u < V * LB ^ k → (∀ j, j < k → q.getD j 0 = 0) → ∃ (u' q' : List Nat) (t12' t66' t78' : AV),
      WC rsC [true, true, false, false, true, true, true, true, true, true, true, true, true, false, false, true, false, false, true, false, false, false, false, false, false, false, false, false, false, false, false, true, false, false, false, false, false, false, false, false, false, false, false, true, false, false, false, false, false, false, false, false, false, false, false, false, false, false, false, false, false, false, false, false, false, false, true, false, false, false, false, false, false, false, false, false, false, false, true, false, false, false, false, false, false, false, false, false, false, false, false, false, false, false] I2 ⟨[.p (.sl a.length false (a.map pu)), .p (.sl b.length false (b.map pu)), .p .any, .p .any, .p (.nsl true), .p (.nsl true), .p (.bool false), .p (.int .u64 (s : Int)), .ms 0 0 0 (a.length + 1) 1, .ms 1 0 0 (m + 2) 1, .ms 2 0 0 K 1, .p (.int .i64 (pm k)), t12, .p .any, .p .any, .p (.bool false), .p .any, .p .any, .p (.bool false), .p .any, .p .any, .p .any, .p .any, .p .any, .p .any, .p .any, .p .any, .p .any, .p .any, .p .any, .p .any, .p (.bool false), .p .any, .p .any, .p .any, .p .any, .p .any, .p .any, .p .any, .p .any, .p .any, .p .any, .p .any, t43', .p .any, .p .any, .p .any, .p .any, .p .any, .p .any, .p .any, .p .any, .p .any, .p .any, .p .any, .p .any, .p .any, .p .any, .p .any, .p .any, .p .any, .p .any, .p .any, .p .any, .p .any, .p .any, t66, .p .any, .p .any, .p .any, .p .any, .p .any, .p .any, .p .any, .p .any, .p .any, .p .any, .p .any, t78, .p .any, .p .any, .p .any, .p .any, .p .any, .p .any, .p .any, .p .any, .p .any, .p .any, .p .any, .p .any, .p .any, .p .any, .p .any], [⟨0, false, lb u⟩, ⟨0, false, lb v0⟩, ⟨0, false, lb q⟩]⟩ = some (.exit 2, ⟨[.p (.sl a.length false (a.map pu)), .p (.sl b.length false (b.map pu)), .p .any, .p .any, .p (.nsl true), .p (.nsl true), .p (.bool false), .p (.int .u64 (s : Int)), .ms 0 0 0 (a.length + 1) 1, .ms 1 0 0 (m + 2) 1, .ms 2 0 0 K 1, .p (.int .i64 (-1)), t12', .p .any, .p .any, .p (.bool false), .p .any, .p .any, .p (.bool false), .p .any, .p .any, .p .any, .p .any, .p .any, .p .any, .p .any, .p .any, .p .any, .p .any, .p .any, .p .any, .p (.bool false), .p .any, .p .any, .p .any, .p .any, .p .any, .p .any, .p .any, .p .any, .p .any, .p .any, .p .any, t43', .p .any, .p .any, .p .any, .p .any, .p .any, .p .any, .p .any, .p .any, .p .any, .p .any, .p .any, .p .any, .p .any, .p .any, .p .any, .p .any, .p .any, .p .any, .p .any, .p .any, .p .any, .p .any, t66', .p .any, .p .any, .p .any, .p .any, .p .any, .p .any, .p .any, .p .any, .p .any, .p .any, .p .any, t78', .p .any, .p .any, .p .any, .p .any, .p .any, .p .any, .p .any, .p .any, .p .any, .p .any, .p .any, .p .any, .p .any, .p .any, .p .any], [⟨0, false, lb u'⟩, ⟨0, false, lb v0⟩, ⟨0, false, lb q'⟩]⟩) ∧ u'.length = a.length + 1 ∧ Limbs u' ∧ q'.length = K ∧ Limbs q' ∧ val u' + val q' * V = U0 ∧ val u' < V := by
    intro k
    induction k with
    | zero =>
      intro u q t12 t66 t78 hk hu hlu hq hlq hsum hlt hz
      refine ⟨u, q, t12, .p (.bool false), t78, ?_, hu, hlu, hq, hlq, hsum, by rw [Nat.pow_zero, Nat.mul_one] at hlt; exact hlt⟩
      have hge0 : decide ((-1 : Int) ≥ 0) = false := by decide
      rw [← hI2, WC_loop, hI2, pm_zero]
      simp only [seqT, thn_normal, thn_ret, thn_exit, WC_region, WC_cond, WC_exit, WC_skip, WC_block, WC_ret, evRegion, Bool.false_eq_true, if_false, if_true, reduceIte, ops_n, ops_c, evStep, wantedA, evOp, opv, putA, ret1, ofVal, ofVal1, cellsOf, AV.isCell, clean, evFieldAddr, evField, evExtract, evBuild, evIndex, evBuiltin, evBuildSlice, evNilCheck, blkRead, mkAgg, mkTup, mapO, AV.pure?, setAt, afill, parts, calleeOf, tell, scalar, scalarL, norm, normL, ids, Go.Ev.mark, evResults, evResult, aggCells, partA, List.getElem?_cons_zero, List.getElem?_cons_succ, List.getElem?_nil, List.map_cons, List.map_nil, List.all_cons, List.all_nil, Bool.and_true, Bool.true_and, Bool.and_false, Bool.false_and, Bool.and_self, Bool.not_true, Bool.not_false, Bool.or_true, Bool.or_false, Bool.false_or, Bool.true_or, List.set, List.length_cons, List.length_nil, List.nil_append, List.cons_append, List.append_nil, Nat.reduceAdd, Nat.reduceSub, Nat.reduceMul, Nat.reduceLeDiff, Nat.zero_add, Nat.reduceEqDiff, List.replicate, List.drop, List.take, List.flatMap_cons, List.flatMap_nil, List.foldl_nil, List.foldl_cons, decide_true, decide_false, and_self, and_true, true_and, BEq.rfl, beq_self_eq_true, Option.map_some, Option.map_none, Option.bind_some, Option.bind_none, List.getElem?_toArray, Option.isSome_some, Option.isSome_none, beqs, ne_eq, not_true_eq_false, not_false_eq_true, false_or, or_false, or_self, Nat.reduceLT, false_and, and_false, List.nil_append, evEq, eqc, optO, b_add, b_sub, b_mul, b_eql, b_neq, b_lss, b_leq, b_gtr, b_geq, u_not, flags0, flags1, rs_P, hge0]
    | succ k ih =>
      intro u q t12 t66 t78 hk hu hlu hq hlq hsum hlt hz
      have hge0 : decide ((k : Int) ≥ 0) = true := decide_eq_true (by omega)
      have hwin := win_split u (at' := k) (n := m + 3) (by omega)
      obtain ⟨lo, hlo⟩ : ∃ lo, lo = u.take k := ⟨_, rfl⟩
      obtain ⟨w, hw⟩ : ∃ w, w = (u.drop k).take (m + 3) := ⟨_, rfl⟩
      obtain ⟨hi, hhi⟩ : ∃ hi, hi = u.drop (k + (m + 3)) := ⟨_, rfl⟩
      rw [← hlo, ← hw, ← hhi] at hwin
      have hlol : lo.length = k := by rw [hlo, List.length_take]; omega
      have hwl : w.length = m + 3 := by rw [hw, List.length_take, List.length_drop]; omega
      have hlw : Limbs w := fun x hx => hlu x (List.mem_of_mem_drop (List.mem_of_mem_take (hw ▸ hx)))
      have hllo : Limbs lo := fun x hx => hlu x (List.mem_of_mem_take (hlo ▸ hx))
      have hlhi : Limbs hi := fun x hx => hlu x (List.mem_of_mem_drop (hhi ▸ hx))
      clear hlo hw hhi
      subst hwin
      obtain ⟨hhi0, hW⟩ := k_hi (n := m + 2) hlol hwl hVlt hlt
      obtain ⟨g, hg1, hg2, hg3, hg4⟩ := rs_guess lo w hi v m hlw hvlim hwl hvl (by omega) hvtop (by rw [hvv]; exact hW)
      rw [hvv] at hg3 hg4
      obtain ⟨w', hl1, hl2, hl3, hl4⟩ := rs_less lo w hi v0 ⟨0, false, lb q⟩ (m + 2) g hlw hv2 hwl (by omega) hg2 (by omega) (by rw [← hv, hvv]; exact hg4)
      rw [← hv, hvv] at hl1 hl4
      simp only [N32, hlol, hvl] at hg1
      rw [hlol, hu] at hl1
      rw [hu] at hg1
      have hf0 := frzG (H := [⟨0, false, lb (lo ++ w ++ hi)⟩, ⟨0, false, lb v0⟩, ⟨0, false, lb q⟩]) (id := 0) (ver := 0) (off := 0) (k := a.length + 1) (fz := false) (o := lo ++ w ++ hi) rfl (by omega)
      rw [List.drop_zero, List.take_of_length_le (by omega)] at hf0
      have hf1 := frzG (H := [⟨0, false, lb (lo ++ w ++ hi)⟩, ⟨0, false, lb v0⟩, ⟨0, false, lb q⟩]) (id := 1) (ver := 0) (off := 0) (k := m + 2) (fz := false) (o := v0) rfl (by omega)
      rw [List.drop_zero, ← hv] at hf1
      have hkK : k < K := by omega
      have hkq : k < q.length := by omega
      have hs1 : IntKind.i64.wrap ((k : Int) - 1) = pm k := by rw [wrap_i64 (by omega) (by omega)]; rfl
      have hnu : ∀ d, d < LB → IntKind.u32.wrap (d : Int) = ((d : Nat) : Int) := fun d hd => by rw [wrap_u32, Nat.mod_eq_of_lt hd]
      have hlen' : (lo ++ w' ++ hi).length = a.length + 1 := by rw [← hu]; simp [hl2, hwl]
      have hlim' : Limbs (lo ++ w' ++ hi) := fun x hx => by
        rcases List.mem_append.1 hx with h | h
        · rcases List.mem_append.1 h with h | h
          · exact hllo x h
          · exact hl3 x h
        · exact hlhi x h
      have hqv := fun d => val_set q k d hkq
      rw [hz k (by omega)] at hqv
      have hst := fun d => stG (H := [⟨0, false, lb (lo ++ w' ++ hi)⟩, ⟨0, false, lb v0⟩, ⟨0, false, lb q⟩]) (id := 2) (ver := 0) (j := k) (z := d) (o := q) rfl hkq
      by_cases hdec : g * V ≤ val w
      · rw [decide_eq_true hdec] at hl1
        rw [if_pos hdec] at hl4
        have hstep := k_step (w' := w') (d := g) (n := m + 2) hllo hlol hwl hl2 hhi0 (by omega) (by rw [Nat.add_mul, Nat.one_mul] at hg3; omega) hsum
        obtain ⟨u', q', t12', t66', t78', h1, h2⟩ := ih (lo ++ w' ++ hi) (q.set k g) (.p (.int .u64 (g : Int))) (.p (.bool true)) (.p (.bool false)) (by omega) hlen' hlim' (by rw [List.length_set]; exact hq) (limbs_set hlq hg2) (by
          have := hqv g
          rw [Nat.zero_mul, Nat.add_zero] at this
          rw [this]; exact hstep.1) hstep.2 (fun j hj => by rw [getD_set_ne (by omega), hz j (by omega)])
        have hng := hnu g hg2
        have hsg := hst g
        refine ⟨u', q', t12', t66', t78', ?_, h2⟩
        rw [← hI2, WC_loop, hI2, pm_succ]
        simp only [seqT, thn_normal, thn_ret, thn_exit, WC_region, WC_cond, WC_exit, WC_skip, WC_block, WC_ret, evRegion, Bool.false_eq_true, if_false, if_true, reduceIte, ops_n, ops_c, evStep, wantedA, evOp, opv, putA, ret1, ofVal, ofVal1, cellsOf, AV.isCell, clean, evFieldAddr, evField, evExtract, evBuild, evIndex, evBuiltin, evBuildSlice, evNilCheck, blkRead, mkAgg, mkTup, mapO, AV.pure?, setAt, afill, parts, calleeOf, tell, scalar, scalarL, norm, normL, ids, Go.Ev.mark, evResults, evResult, aggCells, partA, List.getElem?_cons_zero, List.getElem?_cons_succ, List.getElem?_nil, List.map_cons, List.map_nil, List.all_cons, List.all_nil, Bool.and_true, Bool.true_and, Bool.and_false, Bool.false_and, Bool.and_self, Bool.not_true, Bool.not_false, Bool.or_true, Bool.or_false, Bool.false_or, Bool.true_or, List.set, List.length_cons, List.length_nil, List.nil_append, List.cons_append, List.append_nil, Nat.reduceAdd, Nat.reduceSub, Nat.reduceMul, Nat.reduceLeDiff, Nat.zero_add, Nat.reduceEqDiff, List.replicate, List.drop, List.take, List.flatMap_cons, List.flatMap_nil, List.foldl_nil, List.foldl_cons, decide_true, decide_false, and_self, and_true, true_and, BEq.rfl, beq_self_eq_true, Option.map_some, Option.map_none, Option.bind_some, Option.bind_none, List.getElem?_toArray, Option.isSome_some, Option.isSome_none, beqs, ne_eq, not_true_eq_false, not_false_eq_true, false_or, or_false, or_self, Nat.reduceLT, false_and, and_false, List.nil_append, evEq, eqc, optO, b_add, b_sub, b_mul, b_eql, b_neq, b_lss, b_leq, b_gtr, b_geq, u_not, flags0, flags1, rs_P, hge0, hf0, hf1, frz_p, hg1, hl1, evCall_mem (show rsC.md 50 = 2 from rfl), show rsC.md 50 = 2 from rfl, show rsC.md 49 = 0 from rfl, evCall_tab (show ∀ f xs, rsC.O f xs = none from fun _ _ => rfl), normN, hng, hsg, pu, mulConv, ixms hkK, Nat.zero_add, hs1]
        exact h1
      · rw [decide_eq_false hdec] at hl1
        rw [if_neg hdec] at hl4
        have hg0 : 1 ≤ g := by
          rcases Nat.eq_zero_or_pos g with h | h
          · exfalso; apply hdec; rw [h, Nat.zero_mul]; omega
          · exact h
        obtain ⟨d, hd⟩ : ∃ d, g = d + 1 := ⟨g - 1, by omega⟩
        have hgV : g * V = d * V + V := by rw [hd, Nat.add_mul, Nat.one_mul]
        have hstep := k_step (w' := w') (d := d) (n := m + 2) hllo hlol hwl hl2 hhi0 (by omega) (by omega) hsum
        have hsb : IntKind.u64.wrap ((g : Int) - 1) = (d : Int) := by
          rw [show (g : Int) - 1 = (d : Int) by omega]
          exact w64 (by omega)
        obtain ⟨u', q', t12', t66', t78', h1, h2⟩ := ih (lo ++ w' ++ hi) (q.set k d) (.p (.int .u64 (d : Int))) (.p (.bool true)) (.p (.bool true)) (by omega) hlen' hlim' (by rw [List.length_set]; exact hq) (limbs_set hlq (by omega)) (by
          have := hqv d
          rw [Nat.zero_mul, Nat.add_zero] at this
          rw [this]; exact hstep.1) hstep.2 (fun j hj => by rw [getD_set_ne (by omega), hz j (by omega)])
        have hng := hnu d (by omega)
        have hsg := hst d
        refine ⟨u', q', t12', t66', t78', ?_, h2⟩
        rw [← hI2, WC_loop, hI2, pm_succ]
        simp only [seqT, thn_normal, thn_ret, thn_exit, WC_region, WC_cond, WC_exit, WC_skip, WC_block, WC_ret, evRegion, Bool.false_eq_true, if_false, if_true, reduceIte, ops_n, ops_c, evStep, wantedA, evOp, opv, putA, ret1, ofVal, ofVal1, cellsOf, AV.isCell, clean, evFieldAddr, evField, evExtract, evBuild, evIndex, evBuiltin, evBuildSlice, evNilCheck, blkRead, mkAgg, mkTup, mapO, AV.pure?, setAt, afill, parts, calleeOf, tell, scalar, scalarL, norm, normL, ids, Go.Ev.mark, evResults, evResult, aggCells, partA, List.getElem?_cons_zero, List.getElem?_cons_succ, List.getElem?_nil, List.map_cons, List.map_nil, List.all_cons, List.all_nil, Bool.and_true, Bool.true_and, Bool.and_false, Bool.false_and, Bool.and_self, Bool.not_true, Bool.not_false, Bool.or_true, Bool.or_false, Bool.false_or, Bool.true_or, List.set, List.length_cons, List.length_nil, List.nil_append, List.cons_append, List.append_nil, Nat.reduceAdd, Nat.reduceSub, Nat.reduceMul, Nat.reduceLeDiff, Nat.zero_add, Nat.reduceEqDiff, List.replicate, List.drop, List.take, List.flatMap_cons, List.flatMap_nil, List.foldl_nil, List.foldl_cons, decide_true, decide_false, and_self, and_true, true_and, BEq.rfl, beq_self_eq_true, Option.map_some, Option.map_none, Option.bind_some, Option.bind_none, List.getElem?_toArray, Option.isSome_some, Option.isSome_none, beqs, ne_eq, not_true_eq_false, not_false_eq_true, false_or, or_false, or_self, Nat.reduceLT, false_and, and_false, List.nil_append, evEq, eqc, optO, b_add, b_sub, b_mul, b_eql, b_neq, b_lss, b_leq, b_gtr, b_geq, u_not, flags0, flags1, rs_P, hge0, hf0, hf1, frz_p, hg1, hl1, evCall_mem (show rsC.md 50 = 2 from rfl), show rsC.md 50 = 2 from rfl, show rsC.md 49 = 0 from rfl, evCall_tab (show ∀ f xs, rsC.O f xs = none from fun _ _ => rfl), normN, hng, hsg, pu, mulConv, ixms hkK, Nat.zero_add, hs1, hsb]
        exact h1
  have hpmK : pm K = (M : Int) := by rw [hK]; exact pm_succ M
  have hbpos : 0 < val b := Nat.lt_of_lt_of_le (Nat.pow_pos (by decide)) hblow
  have hinit : val u0 < V * LB ^ K := by
    have h1 : U0 < LB ^ a.length * 2 ^ s := by rw [hU0]; exact Nat.mul_lt_mul_of_pos_right (val_lt ha.limbs) hp2
    have h2 : LB ^ (m + 1) * 2 ^ s * LB ^ K ≤ V * LB ^ K := Nat.mul_le_mul_right _ (by rw [hV]; exact Nat.mul_le_mul_right _ hblow)
    have h3 : LB ^ (m + 1) * 2 ^ s * LB ^ K = LB ^ a.length * 2 ^ s := by
      rw [Nat.mul_right_comm, ← Nat.pow_add, hM, hK, show m + 1 + (M + 1) = M + (m + 2) by omega]
    omega
  obtain ⟨u', q', t12', t66', t78', e1, e2, e3, e4, e5, e6, e7⟩ := inner2 K u0 (List.replicate K 0) (.p .und) (.p .und) (.p .und) (Nat.le_refl _) hu3 hu2 (by simp) (fun x hx => by rw [List.eq_of_mem_replicate hx]; decide) (by rw [val_zeros, Nat.zero_mul, Nat.add_zero]; exact hu4) hinit (fun j _ => by simp [List.getD_eq_getElem?_getD, List.getElem?_replicate]; split <;> rfl)
  rw [hpmK] at e1
  rw [e1]
  clear inner2 e1 hI2
  obtain ⟨r1, r2⟩ := div_scaled (a := val a) (b := val b) (s := s) hbpos (q := val q') (r := val u') (by rw [← hV, ← hU0]; exact e6) (by rw [← hV]; exact e7)
  have hut : val (u'.take (m + 2)) = val u' := by
    have h1 := val_append (u'.take (m + 2)) (u'.drop (m + 2))
    rw [List.take_append_drop, List.length_take, Nat.min_eq_left (by omega)] at h1
    rcases Nat.eq_zero_or_pos (val (u'.drop (m + 2))) with h | h
    · rw [h, Nat.mul_zero, Nat.add_zero] at h1; exact h1.symm
    · exfalso
      have : LB ^ (m + 2) * 1 ≤ LB ^ (m + 2) * val (u'.drop (m + 2)) := Nat.mul_le_mul_left _ h
      omega
  have hback := rs_back (u'.take (m + 2)) (fun x hx => e3 x (List.mem_of_mem_take hx)) (by rw [List.length_take]; omega) s ks
  rw [hut, r2, N32, List.length_take, Nat.min_eq_left (by omega)] at hback
  have hq1 : trim q' = toL (val a / val b) := by rw [trim_toL e5, r1]
  have htq := fun f => rs_trimG 2 false q' [⟨0, f, lb u'⟩, ⟨0, false, lb v0⟩, ⟨0, false, lb q'⟩] rfl (by omega)
  rw [e4] at htq
  have hfu := fun f => frzG (H := [⟨0, f, lb u'⟩, ⟨0, false, lb v0⟩, ⟨0, false, lb q'⟩]) (id := 0) (ver := 0) (off := 0) (k := m + 2) (fz := f) (o := u') rfl (by omega)
  simp only [List.drop_zero] at hfu
  have hft := frzT (H := [⟨0, true, lb u'⟩, ⟨0, false, lb v0⟩, ⟨0, false, lb q'⟩]) (id := 0) (ver := 0) (off := 0) (k := m + 2) (o := u') rfl (by omega)
  rw [List.drop_zero] at hft
  have hids := ids_ms (H := [⟨0, false, lb u'⟩, ⟨0, false, lb v0⟩, ⟨0, false, lb q'⟩]) (id := 0) (ver := 0) (off := 0) (k := m + 2) (fz := false) (o := u') rfl
  have hsl := sliceToms (id := 0) (ver := 0) (n := a.length + 1) (i := m + 2) (by omega)
  have hfin := fun f x y => frz_tup3 (H := [⟨0, f, lb u'⟩, ⟨0, false, lb v0⟩, ⟨0, false, lb q'⟩]) (id := 2) (k := (trim q').length) (fz := false) (o := q') (x := x) (y := y) rfl (trim_le q')
  rw [trim_take, hq1] at hfin
  rw [hq1] at htq
  generalize toL (val a % val b) = r at *
  simp only [N32] at hback
  by_cases hr : r = []
  · subst hr
    simp only [seqT, thn_normal, thn_ret, thn_exit, WC_region, WC_cond, WC_exit, WC_skip, WC_block, WC_ret, evRegion, Bool.false_eq_true, if_false, if_true, reduceIte, ops_n, ops_c, evStep, wantedA, evOp, opv, putA, ret1, ofVal, ofVal1, cellsOf, AV.isCell, clean, evFieldAddr, evField, evExtract, evBuild, evIndex, evBuiltin, evBuildSlice, evNilCheck, blkRead, mkAgg, mkTup, mapO, AV.pure?, setAt, afill, parts, calleeOf, tell, scalar, scalarL, norm, normL, ids, Go.Ev.mark, evResults, evResult, aggCells, partA, List.getElem?_cons_zero, List.getElem?_cons_succ, List.getElem?_nil, List.map_cons, List.map_nil, List.all_cons, List.all_nil, Bool.and_true, Bool.true_and, Bool.and_false, Bool.false_and, Bool.and_self, Bool.not_true, Bool.not_false, Bool.or_true, Bool.or_false, Bool.false_or, Bool.true_or, List.set, List.length_cons, List.length_nil, List.nil_append, List.cons_append, List.append_nil, Nat.reduceAdd, Nat.reduceSub, Nat.reduceMul, Nat.reduceLeDiff, Nat.zero_add, Nat.reduceEqDiff, List.replicate, List.drop, List.take, List.flatMap_cons, List.flatMap_nil, List.foldl_nil, List.foldl_cons, decide_true, decide_false, and_self, and_true, true_and, BEq.rfl, beq_self_eq_true, Option.map_some, Option.map_none, Option.bind_some, Option.bind_none, List.getElem?_toArray, Option.isSome_some, Option.isSome_none, beqs, ne_eq, not_true_eq_false, not_false_eq_true, false_or, or_false, or_self, Nat.reduceLT, false_and, and_false, List.nil_append, evEq, eqc, optO, b_add, b_sub, b_mul, b_eql, b_neq, b_lss, b_leq, b_gtr, b_geq, u_not, flags0, flags1, rs_P, List.isEmpty_nil, mod0, lenms rs_P, htq, hfu, hft, hids, ids_p, hsl, hback, frz_p, mark0, flags33, Option.isSome_some, hfin, normN, show Try.f34.results = #[.tmp 4, .tmp 5, .tmp 6] from rfl, evCall_mem (show rsC.md 31 = 2 from rfl), show rsC.md 31 = 2 from rfl, show rsC.md 51 = 0 from rfl, evCall_tab (show ∀ f xs, rsC.O f xs = none from fun _ _ => rfl)]
  · have hsc : scalar (.sl r.length false (r.map pu)) = false := by
      cases r with
      | nil => exact absurd rfl hr
      | cons x r => rfl
    simp only [seqT, thn_normal, thn_ret, thn_exit, WC_region, WC_cond, WC_exit, WC_skip, WC_block, WC_ret, evRegion, Bool.false_eq_true, if_false, if_true, reduceIte, ops_n, ops_c, evStep, wantedA, evOp, opv, putA, ret1, ofVal, ofVal1, cellsOf, AV.isCell, clean, evFieldAddr, evField, evExtract, evBuild, evIndex, evBuiltin, evBuildSlice, evNilCheck, blkRead, mkAgg, mkTup, mapO, AV.pure?, setAt, afill, parts, calleeOf, tell, scalarL, norm, normL, ids, Go.Ev.mark, evResults, evResult, aggCells, partA, List.getElem?_cons_zero, List.getElem?_cons_succ, List.getElem?_nil, List.map_cons, List.map_nil, List.all_cons, List.all_nil, Bool.and_true, Bool.true_and, Bool.and_false, Bool.false_and, Bool.and_self, Bool.not_true, Bool.not_false, Bool.or_true, Bool.or_false, Bool.false_or, Bool.true_or, List.set, List.length_cons, List.length_nil, List.nil_append, List.cons_append, List.append_nil, Nat.reduceAdd, Nat.reduceSub, Nat.reduceMul, Nat.reduceLeDiff, Nat.zero_add, Nat.reduceEqDiff, List.replicate, List.drop, List.take, List.flatMap_cons, List.flatMap_nil, List.foldl_nil, List.foldl_cons, decide_true, decide_false, and_self, and_true, true_and, BEq.rfl, beq_self_eq_true, Option.map_some, Option.map_none, Option.bind_some, Option.bind_none, List.getElem?_toArray, Option.isSome_some, Option.isSome_none, beqs, ne_eq, not_true_eq_false, not_false_eq_true, false_or, or_false, or_self, Nat.reduceLT, false_and, and_false, List.nil_append, evEq, eqc, optO, b_add, b_sub, b_mul, b_eql, b_neq, b_lss, b_leq, b_gtr, b_geq, u_not, flags0, flags1, rs_P, List.isEmpty_nil, mod0, lenms rs_P, htq, hfu, hft, hids, ids_p, hsl, hback, frz_p, mark0, flags33, Option.isSome_some, hfin, normN, show Try.f34.results = #[.tmp 4, .tmp 5, .tmp 6] from rfl, evCall_mem (show rsC.md 31 = 2 from rfl), show rsC.md 31 = 2 from rfl, show rsC.md 51 = 0 from rfl, evCall_tab (show ∀ f xs, rsC.O f xs = none from fun _ _ => rfl), hsc]
end Go.Proofs
