/- The laws' configuration; RsaLarge's walk. No condition. -/
import Derived.Test.YtfhhgndppfpngaaRsa20
import Derived.Test.YtfhhgndppfpngaaRsa22
import Derived.Test.YtfhhgndppfpngaaRsa04
set_option linter.unusedSimpArgs false
set_option linter.unusedVariables false
set_option linter.unusedSimpArgs false
set_option linter.unusedVariables false
namespace Go.Proofs
open Go.Ev Go.Mx
def rdL : List Nat := [9, 9, 9, 0, 0, 0, 1, 0, 0, 0, 0, 0, 0, 0, 0, 1, 0, 0, 0, 0, 0, 0, 0, 0, 0, 0, 0, 0, 0, 0, 0, 2, 0, 0, 0, 0, 0, 0, 0, 0, 0, 0, 0, 0, 0, 0, 0, 0, 1, 0, 2, 0, 0, 0, 0, 0, 6, 0, 0, 0, 0, 4, 0, 0, 1, 0, 2, 2, 0, 0, 0, 0]
noncomputable def rsO : FuncId → List PV → Option PV := fun f xs => if f = 6 then WP rkC 6 xs else WP rsC f xs
noncomputable def rsD : Cfg := { P := Try.prog, O := rsO, md := fun f => rdL.getD f 9, lv := lvOf Try.prog, pa := true }
theorem rsD_ora : OraOK rsD := by
  intro f xs r h F w argv hF hr
  change rsO f xs = some r at h
  unfold rsO at h
  split at h
  · rename_i h6
    subst h6
    exact WP_sound rkC_ok.1 rkC_ok.2 h hF hr
  · exact WP_sound rsC_ok.1 rsC_ok.2 h hF hr
theorem rsD_ok : CfgOK rsD ∧ fnsOK rsD := by
  refine tab_ok (n := rdL.length) (fun f hf => tab_lt hf) (by kernel_rfl) rsD_ora (by decide) fun f hf => ?_
  have hf' : rdL.getD f 9 = 6 := hf
  have hl := tab_lt (L := rdL) (f := f) (by omega)
  have h6 : ((List.range rdL.length).all fun f => rdL.getD f 9 != 6 || f == 56) = true := by kernel_rfl
  have := List.all_eq_true.1 h6 f (List.mem_range.2 hl)
  rw [hf'] at this
  simp at this
  subst this
  exact ⟨Try.f56, 5, 22, Try.func56, rfl, rfl, by kernel_rfl, rfl, rfl, by kernel_rfl⟩
theorem rsD_P : rsD.P = Try.prog := rfl
theorem rsD_O {f : FuncId} {xs : List PV} (h : f ≠ 6) : rsD.O f xs = WP rsC f xs := by
  show rsO f xs = _
  unfold rsO
  rw [if_neg h]
theorem rsD_O6 {xs : List PV} : rsD.O 6 xs = WP rkC 6 xs := rfl
def keyD : Nat → List Nat
  | 521 => [2155839359, 2155839360, 2155839360, 2155839360, 2155839360, 2155839360, 2155839360, 2155839360, 2155839360, 2155839360, 2155839360, 2155839360, 2155839360, 2155839360, 2155839360, 2155839360, 384]
  | _ => [1431677609, 1431677610, 1431677610, 1431677610, 1431677610, 1431677610, 1431677610, 1431677610, 1431677610, 1431677610, 1431677610, 1431677610, 1431677610, 1431677610, 1431677610, 1431677610, 1431677610, 1431677610, 1431677610]
def primeV (n : Nat) : PV := .tup [keyV n, N32 (keyD n)]
theorem prime0 : WP rkC 6 [.int .i64 0] = some (primeV 521) := WP_run 90 (by kernel_rfl)
theorem prime_any (w : Int) : WP rkC 6 [.int .i64 w] = some (primeV 521) ∨ WP rkC 6 [.int .i64 w] = some (primeV 607) := by
  rcases rk_prime w with h | h
  · left
    unfold WP
    simp only [List.map_cons, List.map_nil, h]
    rw [rk_pr0]
    kernel_rfl
  · right
    unfold WP
    simp only [List.map_cons, List.map_nil, h]
    rw [rk_pr1]
    kernel_rfl
theorem canon_of {l : List Nat} (h1 : (l.all fun x => decide (x < LB)) = true) (h2 : (match l.getLast? with | some x => decide (x ≠ 0) | none => true) = true) : Canon l := by
  refine toL_val (fun x hx => of_decide_eq_true (List.all_eq_true.1 h1 x hx)) fun h => ?_
  rw [List.getLast?_eq_some_getLast h] at h2
  exact of_decide_eq_true h2
theorem key_ok521 : KeyOK (keyL 521) 66 := ⟨canon_of (by decide +kernel) (by decide +kernel), ⟨15, by decide⟩, by decide, .inl rfl, ⟨521, nb521, by decide⟩, is521, by rw [kv521]; decide +kernel, sz521⟩
theorem key_ok607 : KeyOK (keyL 607) 76 := ⟨canon_of (by decide +kernel) (by decide +kernel), ⟨17, by decide⟩, by decide, .inr rfl, ⟨607, nb607, by decide⟩, is607, by rw [kv607]; decide +kernel, sz607⟩
/-- Of a key: its number is a prime, and its power back. -/
structure KeyPr (n z : Nat) : Prop where
  ok : KeyOK (keyL n) z
  pr : IsPrime (val (keyL n))
  can : Canon (keyD n)
  dl : (keyD n).length ≤ 1000
  inv : val (keyD n) * 65537 % (val (keyL n) - 1) = 1
  two : 2 * 256 ^ (z - 2) ≤ val (keyL n)
  room : val (keyL n) + val (keyL n) ≤ 256 ^ z
theorem key_pr521 : KeyPr 521 66 := ⟨key_ok521, by rw [kv521]; exact p521, canon_of (by decide +kernel) (by decide +kernel), by decide, by rw [kv521]; decide +kernel, by rw [kv521]; decide +kernel, by rw [kv521]; decide +kernel⟩
theorem key_pr607 : KeyPr 607 76 := ⟨key_ok607, by rw [kv607]; exact p607, canon_of (by decide +kernel) (by decide +kernel), by decide, by rw [kv607]; decide +kernel, by rw [kv607]; decide +kernel, by rw [kv607]; decide +kernel⟩
end Go.Proofs
set_option linter.unusedSimpArgs false
set_option linter.unusedVariables false
namespace Go.Proofs
open Go.Ev Go.Mx
theorem rsD_lv4 : rsD.lv 4 = [true, false, true, true, true, true, true, true, true, false, false, true, false, false, false, false, false, false, false, false, false, false, false, false, false, false, false, false, false, false, false, false, false, false, false, false, false, false, false, false, false, false, false, false, false, false, false, false] := by kernel_rfl
theorem lenD {n : Nat} {x : Bool} {cs : List PV} : evLen rsD #[22] (.p (.sl n x cs)) = some (.int .i64 (n : Int)) := by
  simp only [evLen, rsD_P, List.getElem?_toArray, List.getElem?_cons_zero, Try.underlying22]
theorem st29 (N : List Nat) (Hs : List ABlk) : evStore Try.prog 29 (.pt 0 0 0) (.p (.agg [.int .i64 1, .sl N.length false (N.map pu), .int .u32 65537, .sl 0 false [], .sl 0 false [], .bool false])) (⟨0, false, [.p (.int .i64 0), .p (.nsl true), .p (.int .u32 0), .p (.nsl true), .p (.nsl true), .p (.bool false)]⟩ :: Hs) = some (⟨0, false, [.p (.int .i64 1), .p (.sl N.length false (N.map pu)), .p (.int .u32 65537), .p (.sl 0 false []), .p (.sl 0 false []), .p (.bool false)]⟩ :: Hs) := by kernel_rfl
theorem ld29 (N : List Nat) (Hs : List ABlk) : evLoad Try.prog 29 (.pt 0 0 0) (⟨0, false, [.p (.int .i64 1), .p (.sl N.length false (N.map pu)), .p (.int .u32 65537), .p (.sl 0 false []), .p (.sl 0 false []), .p (.bool false)]⟩ :: Hs) = some (.p (.agg [.int .i64 1, .sl N.length false (N.map pu), .int .u32 65537, .sl 0 false [], .sl 0 false [], .bool false])) ∧ evLoad Try.prog 24 (.pt 0 0 1) (⟨0, false, [.p (.int .i64 1), .p (.sl N.length false (N.map pu)), .p (.int .u32 65537), .p (.sl 0 false []), .p (.sl 0 false []), .p (.bool false)]⟩ :: Hs) = some (.p (.sl N.length false (N.map pu))) := ⟨by kernel_rfl, by kernel_rfl⟩
theorem sc_key (N : List Nat) (h : N ≠ []) : scalar (.agg [.int .i64 1, .sl N.length false (N.map pu), .int .u32 65537, .sl 0 false [], .sl 0 false [], .bool false]) = false := by
  cases N with
  | nil => exact absurd rfl h
  | cons x l => rfl
set_option maxRecDepth 100000 in
set_option maxHeartbeats 4000000 in
theorem large_ev (t : List Nat) (ht : Bytes t) : WP rsD 4 [B8 t] = some (.bool true) := by
  rcases Nat.lt_or_ge 300 t.length with hlen | hlen
  · have hgt : decide ((t.length : Int) > 300) = true := decide_eq_true (by omega)
    rw [B8]
    rw [WP_eq (show rsD.md 4 < 9 by decide) Try.func4 rfl]
    rw [show Try.f4.ntmps = 48 from rfl, rsD_lv4]
    simp only [N32, List.map_cons, List.map_nil, List.length_cons, List.length_nil, Nat.reduceAdd, Nat.reduceSub, List.replicate, List.cons_append, List.nil_append]
    simp only [seqT, thn_normal, thn_ret, thn_exit, WC_region, WC_cond, WC_exit, WC_skip, WC_block, WC_ret, evRegion, Bool.false_eq_true, if_false, if_true, reduceIte, ops_n, ops_c, evStep, wantedA, evOp, opv, putA, ret1, ofVal, ofVal1, AV.isCell, clean, evField, evExtract, evBuild, evIndex, evBuiltin, evNilCheck, blkRead, mkAgg, mkTup, mapO, AV.pure?, setAt, afill, parts, calleeOf, tell, norm, normL, ids, Go.Ev.mark, evResults, evResult, aggCells, partA, List.getElem?_cons_zero, List.getElem?_cons_succ, List.getElem?_nil, List.map_cons, List.map_nil, List.all_cons, List.all_nil, Bool.and_true, Bool.true_and, Bool.and_false, Bool.false_and, Bool.and_self, Bool.not_true, Bool.not_false, Bool.or_true, Bool.or_false, Bool.false_or, Bool.true_or, List.set, List.length_cons, List.length_nil, List.nil_append, List.cons_append, List.append_nil, Nat.reduceAdd, Nat.reduceSub, Nat.reduceMul, Nat.reduceLeDiff, Nat.zero_add, Nat.reduceEqDiff, List.replicate, List.drop, List.take, List.flatMap_cons, List.flatMap_nil, List.foldl_nil, List.foldl_cons, decide_true, decide_false, and_self, and_true, true_and, BEq.rfl, beq_self_eq_true, Option.map_some, Option.map_none, Option.bind_some, Option.bind_none, List.getElem?_toArray, Option.isSome_some, Option.isSome_none, beqs, ne_eq, not_true_eq_false, not_false_eq_true, false_or, or_false, or_self, Nat.reduceLT, false_and, and_false, List.nil_append, evEq, eqc, optO, b_add, b_sub, b_mul, b_eql, b_neq, b_lss, b_leq, b_gtr, b_geq, u_not, flags0, flags1, rs_P, evCall, normN, norm8, frz_p, ids_p, foldN, ite_self, rsD_P, rsD_O6, lenD, hgt, show Try.f4.results = #[.tmp 2] from rfl]
  · have hgt : decide ((t.length : Int) > 300) = false := decide_eq_false (by omega)
    have hk := key_pr521
    obtain ⟨g, hg, hgb, hsha⟩ := rs_sha t ht (by omega)
    obtain ⟨N, hN⟩ : ∃ N, N = keyL 521 := ⟨_, rfl⟩
    obtain ⟨D, hD⟩ : ∃ D, D = keyD 521 := ⟨_, rfl⟩
    have hp : WP rkC 6 [.int .i64 0] = some (.tup [.agg [.int .i64 1, .sl N.length false (N.map pu), .int .u32 65537, .sl 0 false [], .sl 0 false [], .bool false], N32 D]) := by rw [hN, hD]; exact prime0
    obtain ⟨ok, pr, can, dl, inv, two, room⟩ := hk
    rw [← hN] at ok pr inv two room
    rw [← hD] at can dl inv
    have hNl := ok.len
    have hNe := ok.le
    have hNc := ok.can
    have hNlt := ok.lt
    clear hN hD
    obtain ⟨s, hs, hsl, hsb, hsv⟩ := rs_sign ok D g can dl hg hgb
    have hfl := frame_lt ok.n67 hg hgb
    have hb := power_back pr (a := bval (frameL 66 g)) (d := val D) (e := 65537) (by omega) inv
    rw [← hsv] at hb
    have hNpos : 0 < val N := by have := pr.1; omega
    have hslt : bval s < val N := by rw [hsv]; exact Nat.mod_lt _ hNpos
    have hv1 := rs_verify ok g s hg hgb hsb (by omega)
    rw [decide_eq_true hsl, decide_eq_true hslt, hb, decide_eq_true rfl] at hv1
    have hof := rs_of s hsb (by omega)
    have hsc := canon_toL (bval s)
    have hbig : bval s < LB ^ 17 := by
      have h1 := bval_lt hsb
      rw [hsl] at h1
      exact Nat.lt_of_lt_of_le h1 (by decide +kernel)
    have hadd := rs_add (toL (bval s)) N hsc.limbs hNc.limbs (by have := canon_len hbig; omega) (by omega)
    rw [val_toL] at hadd
    have hsum : bval s + val N < 256 ^ 66 := by omega
    have hlen2 : (toL (bval s + val N)).length ≤ 1000 := Nat.le_trans (canon_len (k := 17) (Nat.lt_of_lt_of_le hsum (by decide +kernel))) (by decide)
    obtain ⟨o, ho1, ho2, ho3, ho4⟩ := rs_bytes (toL (bval s + val N)) (canon_toL _) (by omega) 66 (by decide) (by rw [val_toL]; exact hsum)
    rw [val_toL] at ho4
    have hv2 := rs_verify ok g o hg hgb ho3 (by omega)
    rw [decide_eq_true ho2, ho4, decide_eq_false (by omega : ¬ bval s + val N < val N)] at hv2
    simp only [Bool.and_self, Bool.and_false, Bool.false_and, Bool.true_and] at hv1 hv2
    have hscN := sc_ne (n := N.length) (x := false) (l := N) (by intro h; rw [h] at hNl; obtain ⟨m, hm⟩ := hNl; simp at hm)
    have hsk := sc_key N (by intro h; rw [h] at hNl; obtain ⟨m, hm⟩ := hNl; simp at hm)
    have hst := st29 N []
    have hl1 := (ld29 N []).1
    have hl2 := (ld29 N []).2
    have hnk := norm_key N
    have hkn := rs_known
    generalize toL (bval s + val N) = A at *
    generalize toL (bval s) = B at *
    clear hfl hb hsum hbig hslt hsv inv two room pr ok can
    simp only [N32, B8] at hp hsha hs hof hadd ho1 hv1 hv2 ⊢
    simp only [Int.cast_ofNat_Int] at ho1
    obtain ⟨b1, hb1⟩ : ∃ b, scalar (.tup [.agg [.int .i64 1, .sl N.length false (N.map pu), .int .u32 65537, .sl 0 false [], .sl 0 false [], .bool false], .sl D.length false (D.map pu)]) = b := ⟨_, rfl⟩
    obtain ⟨b2, hb2⟩ : ∃ b, scalar (.sl g.length false (g.map pb)) = b := ⟨_, rfl⟩
    obtain ⟨b3, hb3⟩ : ∃ b, scalar (.sl s.length false (s.map pb)) = b := ⟨_, rfl⟩
    obtain ⟨b4, hb4⟩ : ∃ b, scalar (.sl B.length false (B.map pu)) = b := ⟨_, rfl⟩
    obtain ⟨b5, hb5⟩ : ∃ b, scalar (.sl A.length false (A.map pu)) = b := ⟨_, rfl⟩
    obtain ⟨b6, hb6⟩ : ∃ b, scalar (.tup [.sl o.length false (o.map pb), .bool true]) = b := ⟨_, rfl⟩
    rw [WP_eq (show rsD.md 4 < 9 by decide) Try.func4 rfl]
    rw [show Try.f4.ntmps = 48 from rfl, rsD_lv4]
    simp only [N32, List.map_cons, List.map_nil, List.length_cons, List.length_nil, Nat.reduceAdd, Nat.reduceSub, List.replicate, List.cons_append, List.nil_append]
    simp only [seqT, thn_normal, thn_ret, thn_exit, WC_region, WC_cond, WC_exit, WC_skip, WC_block, WC_ret, evRegion, Bool.false_eq_true, if_false, if_true, reduceIte, ops_n, ops_c, evStep, wantedA, evOp, opv, putA, ret1, ofVal, ofVal1, AV.isCell, clean, evField, evExtract, evBuild, evIndex, evBuiltin, evNilCheck, blkRead, mkAgg, mkTup, mapO, AV.pure?, setAt, afill, parts, calleeOf, tell, norm, normL, ids, Go.Ev.mark, evResults, evResult, aggCells, partA, List.getElem?_cons_zero, List.getElem?_cons_succ, List.getElem?_nil, List.map_cons, List.map_nil, List.all_cons, List.all_nil, Bool.and_true, Bool.true_and, Bool.and_false, Bool.false_and, Bool.and_self, Bool.not_true, Bool.not_false, Bool.or_true, Bool.or_false, Bool.false_or, Bool.true_or, List.set, List.length_cons, List.length_nil, List.nil_append, List.cons_append, List.append_nil, Nat.reduceAdd, Nat.reduceSub, Nat.reduceMul, Nat.reduceLeDiff, Nat.zero_add, Nat.reduceEqDiff, List.replicate, List.drop, List.take, List.flatMap_cons, List.flatMap_nil, List.foldl_nil, List.foldl_cons, decide_true, decide_false, and_self, and_true, true_and, BEq.rfl, beq_self_eq_true, Option.map_some, Option.map_none, Option.bind_some, Option.bind_none, List.getElem?_toArray, Option.isSome_some, Option.isSome_none, beqs, ne_eq, not_true_eq_false, not_false_eq_true, false_or, or_false, or_self, Nat.reduceLT, false_and, and_false, List.nil_append, evEq, eqc, optO, b_add, b_sub, b_mul, b_eql, b_neq, b_lss, b_leq, b_gtr, b_geq, u_not, flags0, flags1, rs_P, evCall, normN, norm8, frz_p, ids_p, foldN, ite_self, rsD_P, rsD_O6, lenD, hgt, hp, hsha, hs, hof, hadd, ho1, hv1, hv2, hst, hl1, hl2, hnk, hkn, vf_fa, rk_zero29, hb1, hb2, hb3, hb4, hb5, hb6, show ∀ b, scalar (.bool b) = true from fun _ => rfl, show rsD.md 6 = 1 from rfl, show rsD.md 7 = 0 from rfl, show rsD.md 8 = 0 from rfl, show rsD.md 14 = 0 from rfl, show rsD.md 13 = 0 from rfl, show rsD.md 12 = 0 from rfl, show rsD.md 10 = 0 from rfl, show rsD.md 11 = 0 from rfl, rsD_O (show (7 : Nat) ≠ 6 by decide), rsD_O (show (8 : Nat) ≠ 6 by decide), rsD_O (show (14 : Nat) ≠ 6 by decide), rsD_O (show (13 : Nat) ≠ 6 by decide), rsD_O (show (12 : Nat) ≠ 6 by decide), rsD_O (show (10 : Nat) ≠ 6 by decide), rsD_O (show (11 : Nat) ≠ 6 by decide), show Try.f4.results = #[.tmp 2] from rfl]
end Go.Proofs
