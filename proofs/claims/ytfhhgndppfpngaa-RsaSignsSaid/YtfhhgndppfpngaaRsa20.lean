/- Frames, keys, verification, signatures. No condition. -/
import Derived.Test.YtfhhgndppfpngaaRsa19
set_option linter.unusedSimpArgs false
set_option linter.unusedVariables false
set_option linter.unusedSimpArgs false
set_option linter.unusedVariables false
namespace Go.Proofs
open Go.Ev Go.Mx
/-- What a signature is to give. -/
def frameL (n : Nat) (g : List Nat) : List Nat := [0, 1] ++ List.replicate (n - 54) 255 ++ [0, 0x30, 0x31, 0x30, 0x0d, 6, 9, 0x60, 0x86, 0x48, 1, 0x65, 3, 4, 2, 1, 5, 0, 4, 0x20] ++ g
theorem list32 {g : List Nat} (h : g.length = 32) : ∃ x0 x1 x2 x3 x4 x5 x6 x7 x8 x9 x10 x11 x12 x13 x14 x15 x16 x17 x18 x19 x20 x21 x22 x23 x24 x25 x26 x27 x28 x29 x30 x31, g = [x0, x1, x2, x3, x4, x5, x6, x7, x8, x9, x10, x11, x12, x13, x14, x15, x16, x17, x18, x19, x20, x21, x22, x23, x24, x25, x26, x27, x28, x29, x30, x31] := by
  match g, h with
  | [x0, x1, x2, x3, x4, x5, x6, x7, x8, x9, x10, x11, x12, x13, x14, x15, x16, x17, x18, x19, x20, x21, x22, x23, x24, x25, x26, x27, x28, x29, x30, x31], _ => exact ⟨x0, x1, x2, x3, x4, x5, x6, x7, x8, x9, x10, x11, x12, x13, x14, x15, x16, x17, x18, x19, x20, x21, x22, x23, x24, x25, x26, x27, x28, x29, x30, x31, rfl⟩
set_option maxRecDepth 100000 in
theorem fr25 {n : Nat} (hn : n = 66 ∨ n = 76) {g : List Nat} (hg : g.length = 32) : WP rsC 25 [B8 g, .int .i64 (n : Int)] = some (.tup [B8 (frameL n g), .bool true]) := by
  obtain ⟨x0, x1, x2, x3, x4, x5, x6, x7, x8, x9, x10, x11, x12, x13, x14, x15, x16, x17, x18, x19, x20, x21, x22, x23, x24, x25, x26, x27, x28, x29, x30, x31, rfl⟩ := list32 hg
  rcases hn with rfl | rfl
  · exact WP_run 40 (by kernel_rfl)
  · exact WP_run 40 (by kernel_rfl)
set_option maxRecDepth 100000 in
theorem fr18 {n : Nat} (hn : n = 66 ∨ n = 76) {g : List Nat} (hg : g.length = 32) : WP rsC 18 [B8 g, .int .i64 (n : Int)] = some (.tup [B8 (frameL n g), .bool true]) := by
  obtain ⟨x0, x1, x2, x3, x4, x5, x6, x7, x8, x9, x10, x11, x12, x13, x14, x15, x16, x17, x18, x19, x20, x21, x22, x23, x24, x25, x26, x27, x28, x29, x30, x31, rfl⟩ := list32 hg
  rcases hn with rfl | rfl
  · exact WP_run 40 (by kernel_rfl)
  · exact WP_run 40 (by kernel_rfl)
theorem rs_known : WP rsC 11 [] = some (.bool true) := WP_run 40 (by kernel_rfl)
def keyL (n : Nat) : List Nat := List.replicate (n / 32) 4294967295 ++ [2 ^ (n % 32) - 1]
def keyV (n : Nat) : PV := .agg [.int .i64 1, N32 (keyL n), .int .u32 65537, .sl 0 false [], .sl 0 false [], .bool false]
theorem is521 : WP rsC 9 [keyV 521] = some (.bool true) := WP_run 40 (by kernel_rfl)
theorem is607 : WP rsC 9 [keyV 607] = some (.bool true) := WP_run 40 (by kernel_rfl)
theorem sz521 : WP rsC 19 [keyV 521] = some (.int .i64 66) := WP_run 80 (by kernel_rfl)
theorem sz607 : WP rsC 19 [keyV 607] = some (.int .i64 76) := WP_run 80 (by kernel_rfl)
theorem nb521 : WP rsC 22 [N32 (keyL 521)] = some (.int .i64 521) := WP_run 40 (by kernel_rfl)
theorem nb607 : WP rsC 22 [N32 (keyL 607)] = some (.int .i64 607) := WP_run 40 (by kernel_rfl)
theorem kv521 : val (keyL 521) = 2 ^ 521 - 1 := by decide +kernel
theorem kv607 : val (keyL 607) = 2 ^ 607 - 1 := by decide +kernel
end Go.Proofs
set_option linter.unusedSimpArgs false
set_option linter.unusedVariables false
namespace Go.Proofs
open Go.Ev Go.Mx
theorem bval_lt : ∀ {l : List Nat}, Bytes l → bval l < 256 ^ l.length
  | [], _ => by simp [bval]
  | x :: l, h => by
    have h1 : x < 256 := h x (by simp)
    have h2 := bval_lt (l := l) fun y hy => h y (by simp [hy])
    simp only [bval, List.length_cons, Nat.pow_succ]
    have : (x + 1) * 256 ^ l.length ≤ 256 * 256 ^ l.length := Nat.mul_le_mul_right _ h1
    rw [Nat.add_mul, Nat.one_mul] at this
    rw [Nat.mul_comm (256 ^ l.length) 256]
    omega
theorem bval_inj : ∀ {a b : List Nat}, a.length = b.length → Bytes a → Bytes b → bval a = bval b → a = b
  | [], [], _, _, _, _ => rfl
  | [], _ :: _, h, _, _, _ => by simp at h
  | _ :: _, [], h, _, _, _ => by simp at h
  | x :: a, y :: b, h, ha, hb, hv => by
    have hl : a.length = b.length := by simpa using h
    have h1 := bval_lt (l := a) fun z hz => ha z (by simp [hz])
    have h2 := bval_lt (l := b) fun z hz => hb z (by simp [hz])
    simp only [bval] at hv
    rw [hl] at hv h1
    have hxy : x = y := by
      have e1 : (x * 256 ^ b.length + bval a) / 256 ^ b.length = x := by
        rw [Nat.mul_comm, Nat.mul_add_div (Nat.pow_pos (by decide)), Nat.div_eq_of_lt h1, Nat.add_zero]
      have e2 : (y * 256 ^ b.length + bval b) / 256 ^ b.length = y := by
        rw [Nat.mul_comm, Nat.mul_add_div (Nat.pow_pos (by decide)), Nat.div_eq_of_lt h2, Nat.add_zero]
      rw [← e1, ← e2, hv]
    subst hxy
    rw [bval_inj hl (fun z hz => ha z (by simp [hz])) (fun z hz => hb z (by simp [hz])) (by omega)]
theorem norm8 (l : List Nat) : normL (l.map pb) = l.map pb := by
  induction l with
  | nil => rfl
  | cons x l ih => simp only [List.map_cons, normL, ih]; rfl
theorem conv229 {st : Bool} {l : List Nat} {x : Bool} {H : List ABlk} (hl : Bytes l) : evConv Try.prog st 22 9 (.p (.sl l.length x (l.map pb))) H = some (.p (.str l), H) := by
  have h1 : mapO AV.pure? ((l.map pb).map AV.p) = some (l.map pb) := by
    clear hl
    induction l with
    | nil => rfl
    | cons y l ih => simp only [List.map_cons, mapO, AV.pure?, ih]
  have h2 : mapO toByte (l.map pb) = some l := by
    clear h1
    induction l with
    | nil => rfl
    | cons y l ih =>
      have hy : y < 256 := hl y (by simp)
      have e : toByte (pb y) = some y := by
        show some ((y : Int).toNat % 256) = some y
        rw [Int.toNat_natCast, Nat.mod_eq_of_lt hy]
      simp only [List.map_cons, mapO, e, ih (fun z hz => hl z (by simp [hz]))]
  have ht : (l.map pb).take (l.length * 1) = l.map pb := List.take_of_length_le (by simp)
  simp only [evConv, Try.underlying22, Try.underlying9, evBytes, Try.underlying5, lenOf, srcCells, List.length_map, Nat.mul_one, Nat.le_refl, and_self, if_true, List.take_of_length_le, h1, h2]
theorem rs_lv28 : rsC.lv 28 = [true, true, false, false, true, false, false, false, false, false] := by kernel_rfl
set_option maxRecDepth 100000 in
set_option maxHeartbeats 4000000 in
theorem rs_equal (a b : List Nat) (ha : Bytes a) (hb : Bytes b) : WP rsC 28 [B8 a, B8 b] = some (.bool (a == b)) := by
  rw [B8, B8]
  have h1 := fun st x H => conv229 (st := st) (x := x) (H := H) ha
  have h2 := fun st x H => conv229 (st := st) (x := x) (H := H) hb
  have h3 : ∀ P t, evBin P .eql t (.p (.str a)) (.p (.str b)) = some (.p (.bool (a == b))) := fun P t => by simp [evBin, sbin]
  rw [WP_eq (show rsC.md 28 < 9 by decide) Try.func28 rfl]
  rw [show Try.f28.ntmps = 10 from rfl, rs_lv28]
  simp only [N32, List.map_cons, List.map_nil, List.length_cons, List.length_nil, Nat.reduceAdd, Nat.reduceSub, List.replicate, List.cons_append, List.nil_append]
  simp only [seqT, thn_normal, thn_ret, thn_exit, WC_region, WC_cond, WC_exit, WC_skip, WC_block, WC_ret, evRegion, Bool.false_eq_true, if_false, if_true, reduceIte, ops_n, ops_c, evStep, wantedA, evOp, opv, putA, ret1, ofVal, ofVal1, cellsOf, AV.isCell, clean, evFieldAddr, evField, evExtract, evBuild, evIndex, evBuiltin, evBuildSlice, evNilCheck, blkRead, mkAgg, mkTup, mapO, AV.pure?, setAt, afill, parts, calleeOf, tell, scalar, scalarL, norm, normL, ids, Go.Ev.mark, evResults, evResult, aggCells, partA, List.getElem?_cons_zero, List.getElem?_cons_succ, List.getElem?_nil, List.map_cons, List.map_nil, List.all_cons, List.all_nil, Bool.and_true, Bool.true_and, Bool.and_false, Bool.false_and, Bool.and_self, Bool.not_true, Bool.not_false, Bool.or_true, Bool.or_false, Bool.false_or, Bool.true_or, List.set, List.length_cons, List.length_nil, List.nil_append, List.cons_append, List.append_nil, Nat.reduceAdd, Nat.reduceSub, Nat.reduceMul, Nat.reduceLeDiff, Nat.zero_add, Nat.reduceEqDiff, List.replicate, List.drop, List.take, List.flatMap_cons, List.flatMap_nil, List.foldl_nil, List.foldl_cons, decide_true, decide_false, and_self, and_true, true_and, BEq.rfl, beq_self_eq_true, Option.map_some, Option.map_none, Option.bind_some, Option.bind_none, List.getElem?_toArray, Option.isSome_some, Option.isSome_none, beqs, ne_eq, not_true_eq_false, not_false_eq_true, false_or, or_false, or_self, Nat.reduceLT, false_and, and_false, List.nil_append, evEq, eqc, optO, b_add, b_sub, b_mul, b_eql, b_neq, b_lss, b_leq, b_gtr, b_geq, u_not, flags0, flags1, rs_P, h1, h2, h3, frz_p, show Try.f28.results = #[.tmp 4] from rfl]
theorem rs_lv10 : rsC.lv 10 = [true, true, true, true, false, false, true, true, true, true, true, true, false, true, false, false, true, false, false, false, false, false, false, false, false, false, false, false, false, false, false, false, false, false, false, true, false, false, false, false, false, false, false, true, false, false, false, false, false, false, false, false, false, false, false, false, false, false, false, false, false, false, false, false, false, false] := by kernel_rfl
theorem zcmp {a b : List Nat} (ha : Canon a) (hb : Canon b) : decide ((if a.length = b.length then cmpN (val a) (val b) else if a.length < b.length then -1 else 1) ≥ 0) = decide (val b ≤ val a) := by
  by_cases h1 : a.length = b.length
  · rw [if_pos h1]
    unfold cmpN
    by_cases h2 : val a < val b
    · rw [if_pos h2, decide_eq_false (by omega : ¬ val b ≤ val a)]; rfl
    · rw [if_neg h2, decide_eq_true (by omega : val b ≤ val a)]
      by_cases h3 : val a = val b
      · rw [if_pos h3]; rfl
      · rw [if_neg h3]; rfl
  · rw [if_neg h1]
    by_cases h2 : a.length < b.length
    · have := Canon.lt_of_len (a := a) (b := b) ha.limbs hb h2
      rw [if_pos h2, decide_eq_false (by omega : ¬ val b ≤ val a)]; rfl
    · have := Canon.lt_of_len (a := b) (b := a) hb.limbs ha (by omega)
      rw [if_neg h2, decide_eq_true (by omega : val b ≤ val a)]; rfl
/-- A key that serves. -/
structure KeyOK (N : List Nat) (n : Nat) : Prop where
  can : Canon N
  len : ∃ m, N.length = m + 2
  le : N.length ≤ 1000
  n67 : n = 66 ∨ n = 76
  bits : ∃ nb : Nat, WP rsC 22 [N32 N] = some (.int .i64 (nb : Int)) ∧ (nb + 7) / 8 = n
  is : WP rsC 9 [.agg [.int .i64 1, .sl N.length false (N.map pu), .int .u32 65537, .sl 0 false [], .sl 0 false [], .bool false]] = some (.bool true)
  lt : val N < 256 ^ n
  sz : WP rsC 19 [.agg [.int .i64 1, .sl N.length false (N.map pu), .int .u32 65537, .sl 0 false [], .sl 0 false [], .bool false]] = some (.int .i64 (n : Int))
theorem vf_mem (N : List Nat) : evLoad Try.prog 29 (.pt 0 0 0) [⟨0, false, [.p (.int .i64 1), .p (.sl N.length false (N.map pu)), .p (.int .u32 65537), .p (.sl 0 false []), .p (.sl 0 false []), .p (.bool false)]⟩] = some (.p (.agg [.int .i64 1, .sl N.length false (N.map pu), .int .u32 65537, .sl 0 false [], .sl 0 false [], .bool false])) ∧ evLoad Try.prog 24 (.pt 0 0 1) [⟨0, false, [.p (.int .i64 1), .p (.sl N.length false (N.map pu)), .p (.int .u32 65537), .p (.sl 0 false []), .p (.sl 0 false []), .p (.bool false)]⟩] = some (.p (.sl N.length false (N.map pu))) ∧ evLoad Try.prog 25 (.pt 0 0 2) [⟨0, false, [.p (.int .i64 1), .p (.sl N.length false (N.map pu)), .p (.int .u32 65537), .p (.sl 0 false []), .p (.sl 0 false []), .p (.bool false)]⟩] = some (.p (.int .u32 65537)) := ⟨by kernel_rfl, by kernel_rfl, by kernel_rfl⟩
theorem vf_fa : evFieldAddr Try.prog 29 (.pt 0 0 0) 1 = some (.pt 0 0 1) ∧ evFieldAddr Try.prog 29 (.pt 0 0 0) 2 = some (.pt 0 0 2) := ⟨by kernel_rfl, by kernel_rfl⟩
theorem norm_key (N : List Nat) : norm (.agg [.int .i64 1, .sl N.length false (N.map pu), .int .u32 65537, .sl 0 false [], .sl 0 false [], .bool false]) = .agg [.int .i64 1, .sl N.length false (N.map pu), .int .u32 65537, .sl 0 false [], .sl 0 false [], .bool false] := by simp only [norm, normL, normN]
theorem q8 {P : Program} {t : TypeId} {i : Nat} (h : i ≤ 100000000) : evBin P .quo t (.p (.int .i64 (i : Int))) (.p (.int .i64 8)) = some (.p (.int .i64 ((i / 8 : Nat) : Int))) := by
  have h2 : (i : Int).tdiv 8 = ((i / 8 : Nat) : Int) := rfl
  show Option.map AV.p (if (8 : Int) = 0 then none else some (PV.int .i64 (IntKind.i64.wrap ((i : Int).tdiv 8)))) = _
  rw [if_neg (by decide), h2, wrap_i64 (by omega) (by omega)]
  rfl
set_option maxRecDepth 100000 in
set_option maxHeartbeats 4000000 in
theorem rs_verify {N : List Nat} {n : Nat} (hk : KeyOK N n) (g sig : List Nat) (hg : g.length = 32) (hgb : Bytes g) (hs : Bytes sig) (hsl : sig.length ≤ 1024) : WP rsC 10 [.agg [.int .i64 1, .sl N.length false (N.map pu), .int .u32 65537, .sl 0 false [], .sl 0 false [], .bool false], B8 g, B8 sig] = some (.bool (decide (sig.length = n) && decide (bval sig < val N) && decide (bval sig ^ 65537 % val N = bval (frameL n g)))) := by
  obtain ⟨hc, ⟨m, hm⟩, hle, hn, ⟨nb, hnb, hnn⟩, his, hlt, _⟩ := hk
  have hnb' : nb ≤ 700 := by omega
  have hm1 := (vf_mem N).1
  have hm2 := (vf_mem N).2.1
  have hm3 := (vf_mem N).2.2
  have hnk := norm_key N
  have hof := rs_nof sig hs hsl
  obtain ⟨k256, hk256⟩ : ∃ k, k = 256 := ⟨_, rfl⟩
  have hsv : bval sig < LB ^ k256 := Nat.lt_of_lt_of_le (bval_lt hs) (by rw [show LB = 256 ^ 4 from rfl, ← Nat.pow_mul]; exact Nat.pow_le_pow_right (by decide) (by omega))
  have hsc := canon_toL (bval sig)
  have hsll := canon_len hsv
  have hcm := rs_ncmp (toL (bval sig)) N hsc.limbs hc.limbs (by omega) (by omega)
  have hz := zcmp hsc hc
  obtain ⟨z, hzz⟩ : ∃ z : Int, z = (if (toL (bval sig)).length = N.length then cmpN (val (toL (bval sig))) (val N) else if (toL (bval sig)).length < N.length then -1 else 1) := ⟨_, rfl⟩
  rw [← hzz] at hcm hz
  have hxp := rs_nexp (toL (bval sig)) [65537] N hsc (by intro x hx; rw [List.mem_singleton.1 hx]; decide) hc m 17 hm (by omega) (by simp) (by omega) (WP_run 20 (by kernel_rfl)) (by simp) (by decide)
  rw [val_toL] at hz
  rw [val_toL, show val [65537] = 65537 from rfl] at hxp
  have hfr := fr25 hn hg
  have hcpos : 0 < val N := Nat.lt_of_lt_of_le (Nat.pow_pos (by decide)) (hc.low (k := m + 1) (by omega))
  have hxl := Nat.mod_lt (bval sig ^ 65537) hcpos
  have hxc := canon_toL (bval sig ^ 65537 % val N)
  have hxlen : (toL (bval sig ^ 65537 % val N)).length ≤ 1000 := by
    have h1 := val_lt hc.limbs
    exact Nat.le_trans (canon_len (Nat.lt_trans hxl h1)) hle
  obtain ⟨o, ho1, ho2, ho3, ho4⟩ := rs_nbytes (toL (bval sig ^ 65537 % val N)) hxc (by omega) n (by omega) (by rw [val_toL]; omega)
  rw [val_toL] at ho4
  have hfl : (frameL n g).length = n := by
    unfold frameL
    simp [hg]
    omega
  have hfb : Bytes (frameL n g) := by
    intro x hx
    unfold frameL at hx
    rcases List.mem_append.1 hx with hx | hx
    · rcases List.mem_append.1 hx with hx | hx
      · rcases List.mem_append.1 hx with hx | hx
        · simp at hx; omega
        · rw [List.eq_of_mem_replicate hx]; decide
      · simp at hx; omega
    · exact hgb x hx
  have heq := rs_equal o (frameL n g) ho3 hfb
  have hoe : (o == frameL n g) = decide (bval sig ^ 65537 % val N = bval (frameL n g)) := by
    rw [← ho4]
    by_cases h : o = frameL n g
    · rw [decide_eq_true (by rw [h]), h]; simp
    · rw [decide_eq_false (fun h2 => h (bval_inj (by omega) ho3 hfb h2))]
      simpa using h
  rw [hoe] at heq
  generalize decide (bval sig ^ 65537 % val N = bval (frameL n g)) = last at *
  generalize toL (bval sig ^ 65537 % val N) = X at *
  have e8 : IntKind.i64.wrap ((nb : Int) + 8) = ((nb + 8 : Nat) : Int) := by rw [wrap_i64 (by omega) (by omega)]; omega
  have e7 : IntKind.i64.wrap (((nb + 8 : Nat) : Int) - 1) = ((nb + 7 : Nat) : Int) := by rw [wrap_i64 (by omega) (by omega)]; omega
  have hq := q8 (P := Try.prog) (t := 3) (i := nb + 7) (by omega)
  rw [hnn] at hq
  generalize toL (bval sig) = s at *
  generalize frameL n g = F at *
  have hbs : ∀ H, evBuildSlice Try.prog false 24 1 [(0, .p (.int .u32 65537))] H = some (.p (.sl 1 true [.int .u32 65537]), H) := fun H => by kernel_rfl
  have hpu : [65537].map pu = [PV.int .u32 65537] := rfl
  simp only [N32, B8, hpu, List.length_cons, List.length_nil, Nat.zero_add] at hnb hof hcm hxp ho1 hfr heq ⊢
  by_cases h1 : sig.length = n
  · have hne := ine_f h1
    rw [decide_eq_true h1, Bool.true_and]
    by_cases h2 : bval sig < val N
    · rw [decide_eq_true h2, Bool.true_and]
      rw [decide_eq_false (by omega : ¬ val N ≤ bval sig)] at hz
      rw [WP_eq (show rsC.md 10 < 9 by decide) Try.func10 rfl]
      rw [show Try.f10.ntmps = 66 from rfl, rs_lv10]
      simp only [N32, List.map_cons, List.map_nil, List.length_cons, List.length_nil, Nat.reduceAdd, Nat.reduceSub, List.replicate, List.cons_append, List.nil_append]
      simp only [seqT, thn_normal, thn_ret, thn_exit, WC_region, WC_cond, WC_exit, WC_skip, WC_block, WC_ret, evRegion, Bool.false_eq_true, if_false, if_true, reduceIte, ops_n, ops_c, evStep, wantedA, evOp, opv, putA, ret1, ofVal, ofVal1, cellsOf, AV.isCell, clean, evField, evExtract, evBuild, evIndex, evBuiltin, evNilCheck, blkRead, mkAgg, mkTup, mapO, AV.pure?, setAt, afill, parts, calleeOf, tell, scalar, scalarL, norm, normL, ids, Go.Ev.mark, evResults, evResult, aggCells, partA, List.getElem?_cons_zero, List.getElem?_cons_succ, List.getElem?_nil, List.map_cons, List.map_nil, List.all_cons, List.all_nil, Bool.and_true, Bool.true_and, Bool.and_false, Bool.false_and, Bool.and_self, Bool.not_true, Bool.not_false, Bool.or_true, Bool.or_false, Bool.false_or, Bool.true_or, List.set, List.length_cons, List.length_nil, List.nil_append, List.cons_append, List.append_nil, Nat.reduceAdd, Nat.reduceSub, Nat.reduceMul, Nat.reduceLeDiff, Nat.zero_add, Nat.reduceEqDiff, List.replicate, List.drop, List.take, List.flatMap_cons, List.flatMap_nil, List.foldl_nil, List.foldl_cons, decide_true, decide_false, and_self, and_true, true_and, BEq.rfl, beq_self_eq_true, Option.map_some, Option.map_none, Option.bind_some, Option.bind_none, List.getElem?_toArray, Option.isSome_some, Option.isSome_none, beqs, ne_eq, not_true_eq_false, not_false_eq_true, false_or, or_false, or_self, Nat.reduceLT, false_and, and_false, List.nil_append, evEq, eqc, optO, b_add, b_sub, b_mul, b_eql, b_neq, b_lss, b_leq, b_gtr, b_geq, u_not, flags0, flags1, rs_P, hm1, hm2, hm3, vf_fa, hnk, his, hnb, e8, e7, hq, hof, len8, hne, hcm, hz, hfr, hxp, ho1, heq, hbs, show rsC.md 9 = 0 from rfl, show rsC.md 22 = 0 from rfl, show rsC.md 23 = 0 from rfl, show rsC.md 24 = 0 from rfl, show rsC.md 25 = 0 from rfl, show rsC.md 26 = 0 from rfl, show rsC.md 27 = 0 from rfl, show rsC.md 28 = 0 from rfl, show Try.f10.results = #[.tmp 6] from rfl, evCall_tab (show ∀ f xs, rsC.O f xs = none from fun _ _ => rfl), normN, norm8, frz_p, ids_p, foldN, ite_self]
    · rw [decide_eq_false h2, Bool.false_and]
      rw [decide_eq_true (by omega : val N ≤ bval sig)] at hz
      rw [WP_eq (show rsC.md 10 < 9 by decide) Try.func10 rfl]
      rw [show Try.f10.ntmps = 66 from rfl, rs_lv10]
      simp only [N32, List.map_cons, List.map_nil, List.length_cons, List.length_nil, Nat.reduceAdd, Nat.reduceSub, List.replicate, List.cons_append, List.nil_append]
      simp only [seqT, thn_normal, thn_ret, thn_exit, WC_region, WC_cond, WC_exit, WC_skip, WC_block, WC_ret, evRegion, Bool.false_eq_true, if_false, if_true, reduceIte, ops_n, ops_c, evStep, wantedA, evOp, opv, putA, ret1, ofVal, ofVal1, cellsOf, AV.isCell, clean, evField, evExtract, evBuild, evIndex, evBuiltin, evNilCheck, blkRead, mkAgg, mkTup, mapO, AV.pure?, setAt, afill, parts, calleeOf, tell, scalar, scalarL, norm, normL, ids, Go.Ev.mark, evResults, evResult, aggCells, partA, List.getElem?_cons_zero, List.getElem?_cons_succ, List.getElem?_nil, List.map_cons, List.map_nil, List.all_cons, List.all_nil, Bool.and_true, Bool.true_and, Bool.and_false, Bool.false_and, Bool.and_self, Bool.not_true, Bool.not_false, Bool.or_true, Bool.or_false, Bool.false_or, Bool.true_or, List.set, List.length_cons, List.length_nil, List.nil_append, List.cons_append, List.append_nil, Nat.reduceAdd, Nat.reduceSub, Nat.reduceMul, Nat.reduceLeDiff, Nat.zero_add, Nat.reduceEqDiff, List.replicate, List.drop, List.take, List.flatMap_cons, List.flatMap_nil, List.foldl_nil, List.foldl_cons, decide_true, decide_false, and_self, and_true, true_and, BEq.rfl, beq_self_eq_true, Option.map_some, Option.map_none, Option.bind_some, Option.bind_none, List.getElem?_toArray, Option.isSome_some, Option.isSome_none, beqs, ne_eq, not_true_eq_false, not_false_eq_true, false_or, or_false, or_self, Nat.reduceLT, false_and, and_false, List.nil_append, evEq, eqc, optO, b_add, b_sub, b_mul, b_eql, b_neq, b_lss, b_leq, b_gtr, b_geq, u_not, flags0, flags1, rs_P, hm1, hm2, hm3, vf_fa, hnk, his, hnb, e8, e7, hq, hof, len8, hne, hcm, hz, hfr, hxp, ho1, heq, hbs, show rsC.md 9 = 0 from rfl, show rsC.md 22 = 0 from rfl, show rsC.md 23 = 0 from rfl, show rsC.md 24 = 0 from rfl, show rsC.md 25 = 0 from rfl, show rsC.md 26 = 0 from rfl, show rsC.md 27 = 0 from rfl, show rsC.md 28 = 0 from rfl, show Try.f10.results = #[.tmp 6] from rfl, evCall_tab (show ∀ f xs, rsC.O f xs = none from fun _ _ => rfl), normN, norm8, frz_p, ids_p, foldN, ite_self]
  · have hne := ine_t h1
    rw [decide_eq_false h1, Bool.false_and, Bool.false_and]
    rw [WP_eq (show rsC.md 10 < 9 by decide) Try.func10 rfl]
    rw [show Try.f10.ntmps = 66 from rfl, rs_lv10]
    simp only [N32, List.map_cons, List.map_nil, List.length_cons, List.length_nil, Nat.reduceAdd, Nat.reduceSub, List.replicate, List.cons_append, List.nil_append]
    simp only [seqT, thn_normal, thn_ret, thn_exit, WC_region, WC_cond, WC_exit, WC_skip, WC_block, WC_ret, evRegion, Bool.false_eq_true, if_false, if_true, reduceIte, ops_n, ops_c, evStep, wantedA, evOp, opv, putA, ret1, ofVal, ofVal1, cellsOf, AV.isCell, clean, evField, evExtract, evBuild, evIndex, evBuiltin, evNilCheck, blkRead, mkAgg, mkTup, mapO, AV.pure?, setAt, afill, parts, calleeOf, tell, scalar, scalarL, norm, normL, ids, Go.Ev.mark, evResults, evResult, aggCells, partA, List.getElem?_cons_zero, List.getElem?_cons_succ, List.getElem?_nil, List.map_cons, List.map_nil, List.all_cons, List.all_nil, Bool.and_true, Bool.true_and, Bool.and_false, Bool.false_and, Bool.and_self, Bool.not_true, Bool.not_false, Bool.or_true, Bool.or_false, Bool.false_or, Bool.true_or, List.set, List.length_cons, List.length_nil, List.nil_append, List.cons_append, List.append_nil, Nat.reduceAdd, Nat.reduceSub, Nat.reduceMul, Nat.reduceLeDiff, Nat.zero_add, Nat.reduceEqDiff, List.replicate, List.drop, List.take, List.flatMap_cons, List.flatMap_nil, List.foldl_nil, List.foldl_cons, decide_true, decide_false, and_self, and_true, true_and, BEq.rfl, beq_self_eq_true, Option.map_some, Option.map_none, Option.bind_some, Option.bind_none, List.getElem?_toArray, Option.isSome_some, Option.isSome_none, beqs, ne_eq, not_true_eq_false, not_false_eq_true, false_or, or_false, or_self, Nat.reduceLT, false_and, and_false, List.nil_append, evEq, eqc, optO, b_add, b_sub, b_mul, b_eql, b_neq, b_lss, b_leq, b_gtr, b_geq, u_not, flags0, flags1, rs_P, hm1, hm2, hm3, vf_fa, hnk, his, hnb, e8, e7, hq, hof, len8, hne, hcm, hz, hfr, hxp, ho1, heq, hbs, show rsC.md 9 = 0 from rfl, show rsC.md 22 = 0 from rfl, show rsC.md 23 = 0 from rfl, show rsC.md 24 = 0 from rfl, show rsC.md 25 = 0 from rfl, show rsC.md 26 = 0 from rfl, show rsC.md 27 = 0 from rfl, show rsC.md 28 = 0 from rfl, show Try.f10.results = #[.tmp 6] from rfl, evCall_tab (show ∀ f xs, rsC.O f xs = none from fun _ _ => rfl), normN, norm8, frz_p, ids_p, foldN, ite_self]
end Go.Proofs
set_option linter.unusedSimpArgs false
set_option linter.unusedVariables false
namespace Go.Proofs
open Go.Ev Go.Mx
theorem rs_lv8 : rsC.lv 8 = [true, true, true, true, false, false, true, true, false, true, false, true, false, false, false, false, false, false, false, false, false, false, false, false, false, false, false, false, false, false, false, false, false, false, false, false, false] := by kernel_rfl
theorem frame_len {n : Nat} (hn : n = 66 ∨ n = 76) {g : List Nat} (hg : g.length = 32) : (frameL n g).length = n := by
  unfold frameL
  simp [hg]
  omega
theorem frame_bytes {n : Nat} {g : List Nat} (hgb : Bytes g) : Bytes (frameL n g) := by
  intro x hx
  unfold frameL at hx
  rcases List.mem_append.1 hx with hx | hx
  · rcases List.mem_append.1 hx with hx | hx
    · rcases List.mem_append.1 hx with hx | hx
      · simp at hx; omega
      · rw [List.eq_of_mem_replicate hx]; decide
    · simp at hx; omega
  · exact hgb x hx
theorem frame_inj {n : Nat} {g h : List Nat} (he : frameL n g = frameL n h) : g = h := List.append_cancel_left he
/-- A frame begins with 0 and 1. -/
theorem frame_lt {n : Nat} (hn : n = 66 ∨ n = 76) {g : List Nat} (hg : g.length = 32) (hgb : Bytes g) : bval (frameL n g) < 2 * 256 ^ (n - 2) := by
  have h1 := frame_bytes (n := n) hgb
  obtain ⟨r, hr⟩ : ∃ r, frameL n g = 0 :: 1 :: r := ⟨_, rfl⟩
  have hl := frame_len hn hg
  rw [hr] at h1 hl ⊢
  have hrl : r.length = n - 2 := by simp at hl; omega
  have h2 := bval_lt (l := r) fun x hx => h1 x (by simp [hx])
  simp only [bval, List.length_cons, Nat.zero_mul, Nat.zero_add, Nat.one_mul]
  rw [hrl] at h2 ⊢
  omega
set_option maxRecDepth 100000 in
set_option maxHeartbeats 4000000 in
theorem rs_sign {N : List Nat} {n : Nat} (hk : KeyOK N n) (D g : List Nat) (hD : Canon D) (hDl : D.length ≤ 1000) (hg : g.length = 32) (hgb : Bytes g) : ∃ s : List Nat, WP rsC 8 [.agg [.int .i64 1, .sl N.length false (N.map pu), .int .u32 65537, .sl 0 false [], .sl 0 false [], .bool false], N32 D, B8 g] = some (B8 s) ∧ s.length = n ∧ Bytes s ∧ bval s = bval (frameL n g) ^ val D % val N := by
  obtain ⟨hc, ⟨m, hm⟩, hle, hn, ⟨nb, hnb, hnn⟩, his, hlt, hsz⟩ := hk
  have hm1 := (vf_mem N).1
  have hm2 := (vf_mem N).2.1
  have hnk := norm_key N
  have hfr := fr18 hn hg
  have hfl := frame_len hn hg
  have hfb := frame_bytes (n := n) hgb
  have hof := rs_of (frameL n g) hfb (by omega)
  obtain ⟨k256, hk256⟩ : ∃ k, k = 256 := ⟨_, rfl⟩
  have hsv : bval (frameL n g) < LB ^ k256 := Nat.lt_of_lt_of_le (bval_lt hfb) (by rw [show LB = 256 ^ 4 from rfl, ← Nat.pow_mul]; exact Nat.pow_le_pow_right (by decide) (by omega))
  have hsc := canon_toL (bval (frameL n g))
  have hsll := canon_len hsv
  have hDb := rs_bits D hD (by omega)
  have hxp := rs_exp (toL (bval (frameL n g))) D N hsc hD.limbs hc m (bl (val D)) hm (by omega) (by omega) (by omega) hDb (bl_le (by rw [show (2 : Nat) ^ (32 * D.length) = LB ^ D.length by rw [Nat.pow_mul]; rfl]; exact val_lt hD.limbs)) (bl_lt _)
  rw [val_toL] at hxp
  have hcpos : 0 < val N := Nat.lt_of_lt_of_le (Nat.pow_pos (by decide)) (hc.low (k := m + 1) (by omega))
  have hxl := Nat.mod_lt (bval (frameL n g) ^ val D) hcpos
  have hxc := canon_toL (bval (frameL n g) ^ val D % val N)
  have hxlen : (toL (bval (frameL n g) ^ val D % val N)).length ≤ 1000 := by
    have h1 := val_lt hc.limbs
    exact Nat.le_trans (canon_len (Nat.lt_trans hxl h1)) hle
  obtain ⟨o, ho1, ho2, ho3, ho4⟩ := rs_bytes (toL (bval (frameL n g) ^ val D % val N)) hxc (by omega) n (by omega) (by rw [val_toL]; omega)
  rw [val_toL] at ho4
  refine ⟨o, ?_, ho2, ho3, ho4⟩
  generalize toL (bval (frameL n g) ^ val D % val N) = X at *
  generalize toL (bval (frameL n g)) = s at *
  generalize frameL n g = F at *
  simp only [N32, B8] at hof hxp ho1 hfr hDb ⊢
  rw [WP_eq (show rsC.md 8 < 9 by decide) Try.func8 rfl]
  rw [show Try.f8.ntmps = 37 from rfl, rs_lv8]
  simp only [N32, List.map_cons, List.map_nil, List.length_cons, List.length_nil, Nat.reduceAdd, Nat.reduceSub, List.replicate, List.cons_append, List.nil_append]
  simp only [seqT, thn_normal, thn_ret, thn_exit, WC_region, WC_cond, WC_exit, WC_skip, WC_block, WC_ret, evRegion, Bool.false_eq_true, if_false, if_true, reduceIte, ops_n, ops_c, evStep, wantedA, evOp, opv, putA, ret1, ofVal, ofVal1, cellsOf, AV.isCell, clean, evField, evExtract, evBuild, evIndex, evBuiltin, evBuildSlice, evNilCheck, blkRead, mkAgg, mkTup, mapO, AV.pure?, setAt, afill, parts, calleeOf, tell, norm, normL, ids, Go.Ev.mark, evResults, evResult, aggCells, partA, List.getElem?_cons_zero, List.getElem?_cons_succ, List.getElem?_nil, List.map_cons, List.map_nil, List.all_cons, List.all_nil, Bool.and_true, Bool.true_and, Bool.and_false, Bool.false_and, Bool.and_self, Bool.not_true, Bool.not_false, Bool.or_true, Bool.or_false, Bool.false_or, Bool.true_or, List.set, List.length_cons, List.length_nil, List.nil_append, List.cons_append, List.append_nil, Nat.reduceAdd, Nat.reduceSub, Nat.reduceMul, Nat.reduceLeDiff, Nat.zero_add, Nat.reduceEqDiff, List.replicate, List.drop, List.take, List.flatMap_cons, List.flatMap_nil, List.foldl_nil, List.foldl_cons, decide_true, decide_false, and_self, and_true, true_and, BEq.rfl, beq_self_eq_true, Option.map_some, Option.map_none, Option.bind_some, Option.bind_none, List.getElem?_toArray, Option.isSome_some, Option.isSome_none, beqs, ne_eq, not_true_eq_false, not_false_eq_true, false_or, or_false, or_self, Nat.reduceLT, false_and, and_false, List.nil_append, evEq, eqc, optO, b_add, b_sub, b_mul, b_eql, b_neq, b_lss, b_leq, b_gtr, b_geq, u_not, flags0, flags1, rs_P, hm1, hm2, vf_fa, hnk, hsz, hof, hfr, hxp, ho1, show rsC.md 18 = 0 from rfl, show rsC.md 19 = 0 from rfl, show rsC.md 14 = 0 from rfl, show rsC.md 20 = 0 from rfl, show rsC.md 12 = 0 from rfl, show Try.f8.results = #[.tmp 6] from rfl, evCall_tab (show ∀ f xs, rsC.O f xs = none from fun _ _ => rfl), normN, norm8, frz_p, ids_p, foldN, ite_self]
end Go.Proofs
