/- RsaSigns: whatever the input, the law returns true, and the input reads as it did. No condition. -/
import Derived.Test.YtfhhgndppfpngaaRsa24
set_option linter.unusedSimpArgs false
set_option linter.unusedVariables false
set_option linter.unusedSimpArgs false
set_option linter.unusedVariables false
namespace Go.Proofs
open Go.Ev Go.Mx
theorem rsD_lv3 : rsD.lv 3 = [true, true, true, true, false, false, false, false, true, true, true, true, true, true, true, false, false, false, false, false, false, true, false, false, false, false, false, false, false, false, false, false, false, false, false, false, false, false, false, false, false, false, true, false, false, false, false, false, false, false, false, false, false, false, false, false, false, false, false, false, false, false, false, false, false, false, false, false, false, false, false, false, false, false, false, false, false, false, false, false, false, false, false, false, false, false, false, false, false, false, false, false, false, false, false, false, false] := by kernel_rfl
theorem and_low5 (m : Nat) (hm : m < 1000) (a : Int) : ∃ j, j ≤ m ∧ ∀ (P : Program) (t : TypeId), evBin P .and t (.p (.int .i64 a)) (.p (.int .i64 (m : Int))) = some (.p (.int .i64 (j : Int))) := by
  refine ⟨(BitVec.ofInt 64 a &&& BitVec.ofInt 64 (m : Int)).toNat, ?_, fun P t => ?_⟩
  · simp only [BitVec.toNat_and, BitVec.ofInt_natCast, BitVec.toNat_ofNat]
    rw [Nat.mod_eq_of_lt (a := m) (by omega)]
    exact Nat.and_le_right
  · have hle : (BitVec.ofInt 64 a &&& BitVec.ofInt 64 (m : Int)).toNat ≤ m := by
      simp only [BitVec.toNat_and, BitVec.ofInt_natCast, BitVec.toNat_ofNat]
      rw [Nat.mod_eq_of_lt (a := m) (by omega)]
      exact Nat.and_le_right
    have h : ibin .and .i64 a (m : Int) = some (.int .i64 (((BitVec.ofInt 64 a &&& BitVec.ofInt 64 (m : Int)).toNat : Nat) : Int)) := by
      show some (PV.int .i64 (IntKind.i64.wrap ((BitVec.ofInt 64 a &&& BitVec.ofInt 64 (m : Int)).toNat))) = _
      rw [wrap_i64 (by omega) (by omega)]
    simp only [evBin, h]
    simp
theorem b_xor8 {x y : Nat} (hx : x < 256) (hy : y < 256) : x ^^^ y < 256 ∧ ∀ (P : Program) (t : TypeId), evBin P .xor t (.p (.int .u8 (x : Int))) (.p (.int .u8 (y : Int))) = some (.p (.int .u8 ((x ^^^ y : Nat) : Int))) := by
  have hl : x ^^^ y < 256 := Nat.xor_lt_two_pow (n := 8) hx hy
  refine ⟨hl, fun P t => ?_⟩
  have e : (BitVec.ofInt 8 (x : Int) ^^^ BitVec.ofInt 8 (y : Int)).toNat = x ^^^ y := by
    simp only [BitVec.toNat_xor, BitVec.ofInt_natCast, BitVec.toNat_ofNat]
    rw [Nat.mod_eq_of_lt (by omega), Nat.mod_eq_of_lt (by omega)]
  have h : ibin .xor .u8 (x : Int) (y : Int) = some (.int .u8 ((x ^^^ y : Nat) : Int)) := by
    show some (PV.int .u8 (IntKind.u8.wrap ((BitVec.ofInt 8 (x : Int) ^^^ BitVec.ofInt 8 (y : Int)).toNat))) = _
    rw [e, wb]
    congr 2
    unfold ub
    omega
  simp only [evBin, h]
  simp
theorem xor_ne {x y : Nat} (h : y ≠ 0) : x ^^^ y ≠ x := fun he => h (by
  have h2 := congrArg (x ^^^ ·) he
  simp only [← Nat.xor_assoc, Nat.xor_self, Nat.zero_xor] at h2
  exact h2)
theorem ldG8 {H : List ABlk} {id ver j : Nat} {fz : Bool} {o : List Nat} (hH : H[id]? = some ⟨ver, fz, lb8 o⟩) (h : j < o.length) : evLoad Try.prog 5 (.pt id ver j) H = some (.p (pb (o.getD j 0))) := by
  have hb : blkRead H id ver j 1 = some [.p (pb (o.getD j 0))] := by
    unfold blkRead
    rw [hH]
    simp only [lb8, List.length_map, true_and]
    rw [if_pos (by omega)]
    congr 1
    rw [← List.map_drop, ← List.map_take]
    have : (o.drop j).take 1 = [o.getD j 0] := by
      rw [List.drop_eq_getElem_cons h, List.take_succ_cons, List.take_zero, List.getD_eq_getElem?_getD, List.getElem?_eq_getElem h]
      rfl
    rw [this]
    rfl
  simp only [evLoad, rs_T5, hb]
theorem appD (a : List Nat) (ha : a ≠ []) (hal : a.length ≤ 100000) (H : List ABlk) : evAppend rsD #[22, 22] (.p (.sl 0 true [])) (.p (.sl a.length false (a.map pb))) H = some (.ms H.length 0 0 a.length 1, H ++ [⟨0, false, lb8 a⟩]) := by
  have h0 : a.length ≠ 0 := by simpa using ha
  have ht : (List.map pb a).take a.length = List.map pb a := List.take_of_length_le (by simp)
  simp only [evAppend, List.getElem?_toArray, List.getElem?_cons_zero, List.getElem?_cons_succ, rsD_P, rs_T8, rs_T5, evNew, isI22, lenOf, srcCells, Nat.mul_one, List.length_map, Nat.le_refl, and_self, if_true, ht, pbcells, evAppend2, h0, if_false, List.length_nil, Nat.zero_mul, Nat.zero_add, List.map_nil, List.nil_append, all_lb8, List.all_nil]
  rw [if_neg (by simp), if_pos (by simp; omega)]
theorem app1D (a : List Nat) (ha : a ≠ []) (hal : a.length ≤ 100000) (H : List ABlk) : evAppend rsD #[22, 22] (.p (.sl 1 true [.int .u8 0])) (.p (.sl a.length false (a.map pb))) H = some (.ms H.length 0 0 (1 + a.length) 1, H ++ [⟨0, false, lb8 (0 :: a)⟩]) := by
  have h0 : a.length ≠ 0 := by simpa using ha
  have ht : (List.map pb a).take a.length = List.map pb a := List.take_of_length_le (by simp)
  simp only [evAppend, List.getElem?_toArray, List.getElem?_cons_zero, List.getElem?_cons_succ, rsD_P, rs_T8, rs_T5, evNew, isI22, lenOf, srcCells, Nat.mul_one, List.length_map, Nat.le_refl, and_self, if_true, ht, pbcells, evAppend2, h0, if_false, all_lb8]
  rw [if_neg (by simp), if_pos (by simp [AV.isCell]; omega)]
  rfl
theorem appS (a : List Nat) (ha : a ≠ []) (hal : a.length ≤ 100000) : evAppendS rsD #[22, 22] (.p (.sl 1 true [.int .u8 0])) (.p (.sl a.length false (a.map pb))) = some (.p (.sl (1 + a.length) false ((0 :: a).map pb))) := by
  have h0 : a.length ≠ 0 := by simpa using ha
  have ht : (List.map pb a).take a.length = List.map pb a := List.take_of_length_le (by simp)
  have hp : mapO AV.pure? ((a.map pb).map AV.p) = some (a.map pb) := by
    clear ha hal h0 ht
    induction a with
    | nil => rfl
    | cons y l ih => simp only [List.map_cons, mapO, AV.pure?, ih]
  simp only [evAppendS, List.getElem?_toArray, List.getElem?_cons_zero, List.getElem?_cons_succ, rsD_P, rs_T8, rs_T5, evNew, isI22, lenOf, srcCells, Nat.mul_one, List.length_map, Nat.le_refl, and_self, if_true, ht, hp]
  rw [if_neg (by simp), if_pos (by refine ⟨h0, ?_⟩; simp; omega)]
  rfl
theorem slTail (s : List Nat) (h : 1 ≤ s.length) : evSlice Try.prog 22 (.p (.sl s.length false (s.map pb))) (some (.p (.int .i64 1))) none none = some (.p (.sl (s.drop 1).length false ((s.drop 1).map pb))) := by
  have ht : ((s.map pb).drop 1).take (s.length - 1) = (s.drop 1).map pb := by
    rw [List.take_of_length_le (by simp), List.map_drop]
  simp only [evSlice, Try.underlying22, rs_T5, bounds, bnd, Int.toNat_one, Nat.mul_one]
  rw [if_pos ⟨by omega, by omega⟩]
  simp only [Nat.mul_one, Int.toNat_one, ht, Bool.false_and, List.length_map, List.length_drop]
  rw [if_neg (by simp)]
theorem flags34 {v0 v1 v2 w0 w1 w2 : Nat} {a0 a1 a2 b0 b1 b2 : List AV} {B : ABlk} : flags [⟨v0, false, a0⟩, ⟨v1, false, a1⟩, ⟨v2, false, a2⟩] [⟨w0, false, b0⟩, ⟨w1, false, b1⟩, ⟨w2, false, b2⟩, B] = [⟨v0, false, a0⟩, ⟨v1, false, a1⟩, ⟨v2, false, a2⟩] := rfl
set_option maxRecDepth 100000 in
set_option maxHeartbeats 4000000 in
theorem signs_walk {n z : Nat} (hk : KeyPr n z) (way : Int) (t : List Nat) (ht : Bytes t) (hlen : t.length ≤ 300) (a : Int) (b : Nat) (hb0 : b ≠ 0) (hb : b < 256) (hpr : WP rkC 6 [.int .i64 way] = some (primeV n)) : WP rsD 3 [.int .i64 way, B8 t, .int .i64 a, .int .u8 (b : Int)] = some (.bool true) := by
  have hgt : decide ((t.length : Int) > 300) = false := decide_eq_false (by omega)
  have hbe : ((b : Int) == 0) = false := beq_eq_false_iff_ne.2 (by omega)
  obtain ⟨g, hg, hgb, hsha⟩ := rs_sha t ht (by omega)
  obtain ⟨N, hN⟩ : ∃ N, N = keyL n := ⟨_, rfl⟩
  obtain ⟨D, hD⟩ : ∃ D, D = keyD n := ⟨_, rfl⟩
  have hp : WP rkC 6 [.int .i64 way] = some (.tup [.agg [.int .i64 1, .sl N.length false (N.map pu), .int .u32 65537, .sl 0 false [], .sl 0 false [], .bool false], N32 D]) := by rw [hN, hD]; exact hpr
  obtain ⟨ok, pr, can, dl, inv, two, room⟩ := hk
  rw [← hN] at ok pr inv two room
  rw [← hD] at can dl inv
  clear hN hD hpr
  have hNl := ok.len
  have hzz := ok.n67
  have his := ok.is
  obtain ⟨s, hs, hsl, hsb, hsv⟩ := rs_sign ok D g can dl hg hgb
  have hfl := frame_lt ok.n67 hg hgb
  have hback := power_back pr (a := bval (frameL z g)) (d := val D) (e := 65537) (by omega) inv
  rw [← hsv] at hback
  have hNpos : 0 < val N := by have := pr.1; omega
  have hslt : bval s < val N := by rw [hsv]; exact Nat.mod_lt _ hNpos
  have hv0 := rs_verify ok g s hg hgb hsb (by omega)
  rw [decide_eq_true hsl, decide_eq_true hslt, hback, decide_eq_true rfl] at hv0
  -- another digest
  obtain ⟨j, hj, hja⟩ := and_low5 31 (by decide) a
  obtain ⟨k, hk, hka⟩ := and_low5 63 (by decide) a
  simp only [Int.cast_ofNat_Int] at hja hka
  have hgj : g.getD j 0 < 256 := by
    rw [List.getD_eq_getElem?_getD, List.getElem?_eq_getElem (by omega)]
    exact hgb _ (List.getElem_mem _)
  have hsk : s.getD k 0 < 256 := by
    rw [List.getD_eq_getElem?_getD, List.getElem?_eq_getElem (by omega)]
    exact hsb _ (List.getElem_mem _)
  obtain ⟨hx1, hxe1⟩ := b_xor8 hgj hb
  obtain ⟨hx2, hxe2⟩ := b_xor8 hsk hb
  have hne1 := xor_ne (x := g.getD j 0) hb0
  have hne2 := xor_ne (x := s.getD k 0) hb0
  obtain ⟨y1, hy1⟩ : ∃ y, y = g.getD j 0 ^^^ b := ⟨_, rfl⟩
  obtain ⟨y2, hy2⟩ : ∃ y, y = s.getD k 0 ^^^ b := ⟨_, rfl⟩
  rw [← hy1] at hx1 hxe1 hne1
  rw [← hy2] at hx2 hxe2 hne2
  obtain ⟨h, hh⟩ : ∃ h, h = g.set j y1 := ⟨_, rfl⟩
  obtain ⟨u, hu⟩ : ∃ u, u = s.set k y2 := ⟨_, rfl⟩
  have hhl : h.length = g.length := by rw [hh, List.length_set]
  have hul : u.length = s.length := by rw [hu, List.length_set]
  have hhb : Bytes h := fun x hx => by
    rw [hh] at hx
    rcases List.mem_or_eq_of_mem_set hx with h1 | h1
    · exact hgb x h1
    · rw [h1]; exact hx1
  have hub : Bytes u := fun x hx => by
    rw [hu] at hx
    rcases List.mem_or_eq_of_mem_set hx with h1 | h1
    · exact hsb x h1
    · rw [h1]; exact hx2
  have hhg : frameL z g ≠ frameL z h := fun he => by
    have e := congrArg (fun l => l.getD j 0) (frame_inj he)
    rw [hh, getD_set_eq (by omega)] at e
    exact hne1 e.symm
  have hus : u ≠ s := fun he => by
    have e := congrArg (fun l => l.getD k 0) he
    rw [hu, getD_set_eq (by omega)] at e
    exact hne2 e
  have hv1 := rs_verify ok h s (by omega) hhb hsb (by omega)
  rw [hback, decide_eq_false (fun he => hhg (bval_inj (by rw [frame_len hzz hg, frame_len hzz (by omega)]) (frame_bytes hgb) (frame_bytes hhb) he))] at hv1
  have hv2 := rs_verify ok g u hg hgb hub (by omega)
  have hbad : (decide (bval u < val N) && decide (bval u ^ 65537 % val N = bval (frameL z g))) = false := by
    by_cases h1 : bval u < val N
    · rw [decide_eq_true h1, Bool.true_and]
      refine decide_eq_false fun h2 => hus (bval_inj hul hub hsb ?_)
      have h3 := power_back pr (a := bval u) (d := 65537) (e := val D) h1 (by rw [Nat.mul_comm]; exact inv)
      rw [h2, ← hsv] at h3
      exact h3.symm
    · rw [decide_eq_false h1, Bool.false_and]
  rw [Bool.and_assoc, hbad] at hv2
  have hb0s : Bytes (0 :: s) := fun x hx => by
    rcases List.mem_cons.1 hx with h1 | h1
    · rw [h1]; decide
    · exact hsb x h1
  have hv3 := rs_verify ok g (0 :: s) hg hgb hb0s (by simp; omega)
  rw [decide_eq_false (by simp; omega : ¬ (0 :: s).length = z)] at hv3
  have hv4 := rs_verify ok g (s.drop 1) hg hgb (fun x hx => hsb x (List.mem_of_mem_drop hx)) (by simp; omega)
  rw [decide_eq_false (by simp; omega : ¬ (s.drop 1).length = z)] at hv4
  simp only [Bool.and_self, Bool.and_false, Bool.false_and, Bool.true_and] at hv0 hv1 hv2 hv3 hv4
  -- memory
  have hsk1 := sc_key N (by intro h; rw [h] at hNl; obtain ⟨m, hm⟩ := hNl; simp at hm)
  have hst := st29 N []
  have hl0 := fun Hs => (ld29 N Hs).1
  have hnk := norm_key N
  have hkn := rs_known
  have hap1 := appD g (by intro h; rw [h] at hg; simp at hg) (by omega) [⟨0, false, [.p (.int .i64 1), .p (.sl N.length false (N.map pu)), .p (.int .u32 65537), .p (.sl 0 false []), .p (.sl 0 false []), .p (.bool false)]⟩]
  have hap2 := appD s (by intro h; rw [h] at hsl; simp at hsl; omega) (by omega) [⟨0, false, [.p (.int .i64 1), .p (.sl N.length false (N.map pu)), .p (.int .u32 65537), .p (.sl 0 false []), .p (.sl 0 false []), .p (.bool false)]⟩, ⟨0, false, lb8 h⟩]
  have hap3 := app1D s (by intro h; rw [h] at hsl; simp at hsl; omega) (by omega) [⟨0, false, [.p (.int .i64 1), .p (.sl N.length false (N.map pu)), .p (.int .u32 65537), .p (.sl 0 false []), .p (.sl 0 false []), .p (.bool false)]⟩, ⟨0, false, lb8 h⟩, ⟨0, false, lb8 u⟩]
  have hap4 := appS s (by intro h; rw [h] at hsl; simp at hsl; omega) (by omega)
  have hix1 := ixm8 (id := 1) (ver := 0) (off := 0) (n := g.length) (i := j) (by omega)
  have hix2 := ixm8 (id := 2) (ver := 0) (off := 0) (n := s.length) (i := k) (by omega)
  have hld1 := ldG8 (H := [⟨0, false, [.p (.int .i64 1), .p (.sl N.length false (N.map pu)), .p (.int .u32 65537), .p (.sl 0 false []), .p (.sl 0 false []), .p (.bool false)]⟩, ⟨0, false, lb8 g⟩]) (id := 1) (ver := 0) (j := j) (fz := false) (o := g) rfl (by omega)
  have hld2 := ldG8 (H := [⟨0, false, [.p (.int .i64 1), .p (.sl N.length false (N.map pu)), .p (.int .u32 65537), .p (.sl 0 false []), .p (.sl 0 false []), .p (.bool false)]⟩, ⟨0, false, lb8 h⟩, ⟨0, false, lb8 s⟩]) (id := 2) (ver := 0) (j := k) (fz := false) (o := s) rfl (by omega)
  have hst1 := st8 (H := [⟨0, false, [.p (.int .i64 1), .p (.sl N.length false (N.map pu)), .p (.int .u32 65537), .p (.sl 0 false []), .p (.sl 0 false []), .p (.bool false)]⟩, ⟨0, false, lb8 g⟩]) (id := 1) (ver := 0) (j := j) (z := y1) (o := g) rfl (by omega)
  have hst2 := st8 (H := [⟨0, false, [.p (.int .i64 1), .p (.sl N.length false (N.map pu)), .p (.int .u32 65537), .p (.sl 0 false []), .p (.sl 0 false []), .p (.bool false)]⟩, ⟨0, false, lb8 h⟩, ⟨0, false, lb8 s⟩]) (id := 2) (ver := 0) (j := k) (z := y2) (o := s) rfl (by omega)
  rw [← hh] at hst1
  rw [← hu] at hst2
  have hf1 := frz8 (H := [⟨0, false, [.p (.int .i64 1), .p (.sl N.length false (N.map pu)), .p (.int .u32 65537), .p (.sl 0 false []), .p (.sl 0 false []), .p (.bool false)]⟩, ⟨0, false, lb8 h⟩, ⟨0, false, lb8 u⟩]) (d := 5) (id := 1) (ver := 0) (off := 0) (k := g.length) (fz := false) (o := h) rfl (by omega)
  have hf2 := frz8 (H := [⟨0, false, [.p (.int .i64 1), .p (.sl N.length false (N.map pu)), .p (.int .u32 65537), .p (.sl 0 false []), .p (.sl 0 false []), .p (.bool false)]⟩, ⟨0, false, lb8 h⟩, ⟨0, false, lb8 u⟩]) (d := 5) (id := 2) (ver := 0) (off := 0) (k := s.length) (fz := false) (o := u) rfl (by omega)
  have hf3 := frz8 (H := [⟨0, false, [.p (.int .i64 1), .p (.sl N.length false (N.map pu)), .p (.int .u32 65537), .p (.sl 0 false []), .p (.sl 0 false []), .p (.bool false)]⟩, ⟨0, false, lb8 h⟩, ⟨0, false, lb8 u⟩, ⟨0, false, lb8 (0 :: s)⟩]) (d := 5) (id := 3) (ver := 0) (off := 0) (k := 1 + s.length) (fz := false) (o := 0 :: s) rfl (by simp; omega)
  rw [List.drop_zero, List.take_of_length_le (by omega)] at hf1 hf2
  rw [List.drop_zero, List.take_of_length_le (by simp; omega)] at hf3
  have hsl1 := slTail s (by omega)
  have hl3 : (0 :: s).length = 1 + s.length := by simp; omega
  generalize hS3 : (0 :: s) = s3 at *
  generalize hS4 : s.drop 1 = s4 at *
  generalize g.getD j 0 = w1 at *
  generalize s.getD k 0 = w2 at *
  simp only [N32, B8, hhl, hul, hl3] at hp hsha hs hv0 hv1 hv2 hv3 hv4 ⊢
  clear hfl hback hslt hsv inv two room pr can hbad hus hhg ok hS3 hS4 hh hu hy1 hy2
  obtain ⟨b1, hb1⟩ : ∃ b, scalar (.tup [.agg [.int .i64 1, .sl N.length false (N.map pu), .int .u32 65537, .sl 0 false [], .sl 0 false [], .bool false], .sl D.length false (D.map pu)]) = b := ⟨_, rfl⟩
  obtain ⟨b2, hb2⟩ : ∃ b, scalar (.sl g.length false (g.map pb)) = b := ⟨_, rfl⟩
  obtain ⟨b3, hb3⟩ : ∃ b, scalar (.sl s.length false (s.map pb)) = b := ⟨_, rfl⟩
  rw [WP_eq (show rsD.md 3 < 9 by decide) Try.func3 rfl]
  rw [show Try.f3.ntmps = 97 from rfl, rsD_lv3]
  simp only [N32, List.map_cons, List.map_nil, List.length_cons, List.length_nil, Nat.reduceAdd, Nat.reduceSub, List.replicate, List.cons_append, List.nil_append]
  simp only [seqT, thn_normal, thn_ret, thn_exit, WC_region, WC_cond, WC_exit, WC_skip, WC_block, WC_ret, evRegion, Bool.false_eq_true, if_false, if_true, reduceIte, ops_n, ops_c, evStep, wantedA, evOp, opv, putA, ret1, ofVal, ofVal1, AV.isCell, clean, evField, evExtract, evBuild, evIndex, evBuiltin, evNilCheck, blkRead, mkAgg, mkTup, mapO, AV.pure?, setAt, afill, parts, calleeOf, tell, norm, normL, ids, Go.Ev.mark, evResults, evResult, aggCells, partA, List.getElem?_cons_zero, List.getElem?_cons_succ, List.getElem?_nil, List.map_cons, List.map_nil, List.all_cons, List.all_nil, Bool.and_true, Bool.true_and, Bool.and_false, Bool.false_and, Bool.and_self, Bool.not_true, Bool.not_false, Bool.or_true, Bool.or_false, Bool.false_or, Bool.true_or, List.set, List.length_cons, List.length_nil, List.nil_append, List.cons_append, List.append_nil, Nat.reduceAdd, Nat.reduceSub, Nat.reduceMul, Nat.reduceLeDiff, Nat.zero_add, Nat.reduceEqDiff, List.replicate, List.drop, List.take, List.flatMap_cons, List.flatMap_nil, List.foldl_nil, List.foldl_cons, decide_true, decide_false, and_self, and_true, true_and, BEq.rfl, beq_self_eq_true, Option.map_some, Option.map_none, Option.bind_some, Option.bind_none, List.getElem?_toArray, Option.isSome_some, Option.isSome_none, beqs, ne_eq, not_true_eq_false, not_false_eq_true, false_or, or_false, or_self, Nat.reduceLT, false_and, and_false, List.nil_append, evEq, eqc, optO, b_add, b_sub, b_mul, b_eql, b_neq, b_lss, b_leq, b_gtr, b_geq, u_not, flags0, flags1, rs_P, evCall, normN, norm8, frz_p, ids_p, foldN, ite_self, rsD_P, rsD_O6, lenD, hgt, hbe, hp, hsha, hs, his, hv0, hv1, hv2, hv3, hv4, hst, hl0, hnk, hkn, hap1, hap2, hap3, hap4, hix1, hix2, Nat.zero_add, hld1, hld2, pb, hja, hka, hxe1, hxe2, hst1, hst2, show deep = 5 + 1 from rfl, hf1, hf2, hf3, hsl1, flags34, rk_zero29, show rsD.pa = true from rfl, bs1, show ∀ st H, evBuildSlice Try.prog st 22 0 [] H = some (.p (.sl 0 true []), H) from fun st H => by kernel_rfl, hb1, hb2, hb3, show ∀ b, scalar (.bool b) = true from fun _ => rfl, show rsD.md 6 = 1 from rfl, show rsD.md 7 = 0 from rfl, show rsD.md 8 = 0 from rfl, show rsD.md 9 = 0 from rfl, show rsD.md 10 = 0 from rfl, show rsD.md 11 = 0 from rfl, rsD_O (show (7 : Nat) ≠ 6 by decide), rsD_O (show (8 : Nat) ≠ 6 by decide), rsD_O (show (9 : Nat) ≠ 6 by decide), rsD_O (show (10 : Nat) ≠ 6 by decide), rsD_O (show (11 : Nat) ≠ 6 by decide), show Try.f3.results = #[.tmp 8] from rfl]
end Go.Proofs
set_option linter.unusedSimpArgs false
set_option linter.unusedVariables false
namespace Go.Proofs
open Go.Ev Go.Mx
set_option maxRecDepth 100000 in
set_option maxHeartbeats 4000000 in
theorem signs_ev (way : Int) (t : List Nat) (ht : Bytes t) (a : Int) (b : Nat) (hb : b < 256) : WP rsD 3 [.int .i64 way, B8 t, .int .i64 a, .int .u8 (b : Int)] = some (.bool true) := by
  rcases Nat.lt_or_ge 300 t.length with hlen | hlen
  · have hgt : decide ((t.length : Int) > 300) = true := decide_eq_true (by omega)
    rw [B8]
    rw [WP_eq (show rsD.md 3 < 9 by decide) Try.func3 rfl]
    rw [show Try.f3.ntmps = 97 from rfl, rsD_lv3]
    simp only [N32, List.map_cons, List.map_nil, List.length_cons, List.length_nil, Nat.reduceAdd, Nat.reduceSub, List.replicate, List.cons_append, List.nil_append]
    simp only [seqT, thn_normal, thn_ret, thn_exit, WC_region, WC_cond, WC_exit, WC_skip, WC_block, WC_ret, evRegion, Bool.false_eq_true, if_false, if_true, reduceIte, ops_n, ops_c, evStep, wantedA, evOp, opv, putA, ret1, ofVal, ofVal1, AV.isCell, clean, evField, evExtract, evBuild, evIndex, evBuiltin, evNilCheck, blkRead, mkAgg, mkTup, mapO, AV.pure?, setAt, afill, parts, calleeOf, tell, norm, normL, ids, Go.Ev.mark, evResults, evResult, aggCells, partA, List.getElem?_cons_zero, List.getElem?_cons_succ, List.getElem?_nil, List.map_cons, List.map_nil, List.all_cons, List.all_nil, Bool.and_true, Bool.true_and, Bool.and_false, Bool.false_and, Bool.and_self, Bool.not_true, Bool.not_false, Bool.or_true, Bool.or_false, Bool.false_or, Bool.true_or, List.set, List.length_cons, List.length_nil, List.nil_append, List.cons_append, List.append_nil, Nat.reduceAdd, Nat.reduceSub, Nat.reduceMul, Nat.reduceLeDiff, Nat.zero_add, Nat.reduceEqDiff, List.replicate, List.drop, List.take, List.flatMap_cons, List.flatMap_nil, List.foldl_nil, List.foldl_cons, decide_true, decide_false, and_self, and_true, true_and, BEq.rfl, beq_self_eq_true, Option.map_some, Option.map_none, Option.bind_some, Option.bind_none, List.getElem?_toArray, Option.isSome_some, Option.isSome_none, beqs, ne_eq, not_true_eq_false, not_false_eq_true, false_or, or_false, or_self, Nat.reduceLT, false_and, and_false, List.nil_append, evEq, eqc, optO, b_add, b_sub, b_mul, b_eql, b_neq, b_lss, b_leq, b_gtr, b_geq, u_not, flags0, flags1, rs_P, evCall, normN, norm8, frz_p, ids_p, foldN, ite_self, rsD_P, rsD_O6, lenD, hgt, show Try.f3.results = #[.tmp 8] from rfl]
  · by_cases hb0 : b = 0
    · have hgt : decide ((t.length : Int) > 300) = false := decide_eq_false (by omega)
      subst hb0
      have hbe : (((0 : Nat) : Int) == 0) = true := rfl
      rw [B8]
      rw [WP_eq (show rsD.md 3 < 9 by decide) Try.func3 rfl]
      rw [show Try.f3.ntmps = 97 from rfl, rsD_lv3]
      simp only [N32, List.map_cons, List.map_nil, List.length_cons, List.length_nil, Nat.reduceAdd, Nat.reduceSub, List.replicate, List.cons_append, List.nil_append]
      simp only [seqT, thn_normal, thn_ret, thn_exit, WC_region, WC_cond, WC_exit, WC_skip, WC_block, WC_ret, evRegion, Bool.false_eq_true, if_false, if_true, reduceIte, ops_n, ops_c, evStep, wantedA, evOp, opv, putA, ret1, ofVal, ofVal1, AV.isCell, clean, evField, evExtract, evBuild, evIndex, evBuiltin, evNilCheck, blkRead, mkAgg, mkTup, mapO, AV.pure?, setAt, afill, parts, calleeOf, tell, norm, normL, ids, Go.Ev.mark, evResults, evResult, aggCells, partA, List.getElem?_cons_zero, List.getElem?_cons_succ, List.getElem?_nil, List.map_cons, List.map_nil, List.all_cons, List.all_nil, Bool.and_true, Bool.true_and, Bool.and_false, Bool.false_and, Bool.and_self, Bool.not_true, Bool.not_false, Bool.or_true, Bool.or_false, Bool.false_or, Bool.true_or, List.set, List.length_cons, List.length_nil, List.nil_append, List.cons_append, List.append_nil, Nat.reduceAdd, Nat.reduceSub, Nat.reduceMul, Nat.reduceLeDiff, Nat.zero_add, Nat.reduceEqDiff, List.replicate, List.drop, List.take, List.flatMap_cons, List.flatMap_nil, List.foldl_nil, List.foldl_cons, decide_true, decide_false, and_self, and_true, true_and, BEq.rfl, beq_self_eq_true, Option.map_some, Option.map_none, Option.bind_some, Option.bind_none, List.getElem?_toArray, Option.isSome_some, Option.isSome_none, beqs, ne_eq, not_true_eq_false, not_false_eq_true, false_or, or_false, or_self, Nat.reduceLT, false_and, and_false, List.nil_append, evEq, eqc, optO, b_add, b_sub, b_mul, b_eql, b_neq, b_lss, b_leq, b_gtr, b_geq, u_not, flags0, flags1, rs_P, evCall, normN, norm8, frz_p, ids_p, foldN, ite_self, rsD_P, rsD_O6, lenD, hgt, hbe, show Try.f3.results = #[.tmp 8] from rfl]
    · rcases prime_any way with h | h
      · exact signs_walk key_pr521 way t ht hlen a b hb0 hb h
      · exact signs_walk key_pr607 way t ht hlen a b hb0 hb h
end Go.Proofs
namespace Go.Proofs.Ytfhhgndppfpngaa
open Go.ChangeShapes Go.WideShapes Go.ChangeAt Go.RowKit Go.Ev
theorem signs_calls {l : List Nat} (hl : Bytes l) {v : Value} {w : World} (hr : rep (fun b => b < w.heap.size) w (B8 l) v) (x a : Int) {b : Int} (hb : 0 ≤ b ∧ b < 256) : Calls Try.prog 3 #[.int .i64 x, v, .int .i64 a, .int .u8 b] w fun e w' => e = .returned (.bool true) ∧ w.keptBut w' (fun _ => False) ∧ Below w.heap.size w w' := by
  have h := WP_sound rsD_ok.1 rsD_ok.2 (signs_ev x l hl a b.toNat (by omega)) (F := fun b => b < w.heap.size) (w := w) (argv := #[.int .i64 x, v, .int .i64 a, .int .u8 b]) (fun _ h => h) (by
    simp only [repL, rep, and_true, true_and]
    exact ⟨by simp only [B8, rep] at hr; exact hr, by congr 1; omega⟩)
  refine h.mono ?_
  rintro e w' ⟨v, F', rfl, hp, hr⟩
  simp only [rep] at hr
  exact ⟨by rw [hr], hp.kept, hp.os, hp.tape, hp.output, hp.size, hp.old⟩
set_option maxRecDepth 100000 in
theorem signs_lifted (os : Os) (started : os.Started) (H : Type) (enc : TypeId × Value → H) :
    ReturnsInHanded {} Try.checked os 3 .any (Rows.rsaSignsSpec.pre6 enc Try.prog Try.f3 Rows.rsaSignsRow.domain false) (Rows.rsaSignsSpec.post enc Try.prog Try.f3 false true false false) := by
  refine returnsInHanded_of_change (C := Try.checked) ownL started (by kernel_rfl) Try.func3
    (ChangeSpec.witness6 (enc := enc) (C := Try.checked) false ⟨#[], #[.int .i64 0, .slice none 0 0, .int .i64 0, .int .u8 0], []⟩ 8 (by kernel_rfl) (by kernel_rfl) (by kernel_rfl) (by kernel_rfl)) ?_
  intro W base args ds gs before hval0 hW hcnd _
  have hval : ∀ (j : Nat) t v, Try.f3.params[j]? = some t → args[j]? = some v → Value.okWide Try.prog W .any base t v := hval0
  have hW' := hW
  obtain ⟨p, q, hA0, hV, rfl, hfz, hnd⟩ := hW
  have hA : DataW.TrodAll enc Try.prog W 0 (fun _ => true) true Try.f3.params.toList args.toList ds p := hA0
  rw [Try.params3] at hA hval
  obtain ⟨v0, v1, v2, v3, d0, d1, d2, d3, p0, p1, p2, p3, rfl, rfl, rfl, h0, h1, h2, h3⟩ := trodAll_four hA
  obtain ⟨rfl, rfl⟩ := trodVars_none hV
  obtain ⟨x, rfl, rfl, rfl, wx⟩ := open_int Try.underlying3 (hval 0 3 v0 rfl rfl) h0
  obtain ⟨a0, len, cap, rfl⟩ := okWide_slice Try.underlying22 (hval 1 22 v1 rfl rfl)
  obtain ⟨y, rfl, rfl, rfl, wy⟩ := open_int Try.underlying3 (hval 2 3 v2 rfl rfl) h2
  obtain ⟨z, rfl, rfl, rfl, wz⟩ := open_int Try.underlying5 (hval 3 5 v3 rfl rfl) h3
  clear hA0 hval0
  simp only [List.append_nil, List.nil_append] at hW'
  have hlt : ∀ x ∈ p1, x.block < W.heap.size := fun x hx => by simpa using hW'.lt x (by simpa using hx)
  obtain ⟨l, hl, hr⟩ := open_bytes h1
  refine (signs_calls hl hr x y (wf_u8 wz)).mono fun e W' ⟨he, hb, hw⟩ => ?_
  subst he
  exact ⟨_, rfl, _, _, _, [], _, [], hW', trodAll_mk1 (shut_bool Try.underlying4 _), trodAll_mk4 (shut_int Try.underlying3 wx) (Below.trod laidOut (by kernel_rfl) (of_decide_eq_true (by kernel_rfl)) h1 hw hlt) (shut_int Try.underlying3 wy) (shut_int Try.underlying5 wz), rfl, World.keptBut_mono (fun _ h => h.elim) hb, fun h => by cases h⟩
theorem rsaSigns_proved : Rows.RsaSignsSaid :=
  OpenClaim.holds_of_wide 3 Try.f3 rfl rfl rfl rfl rfl rfl rfl ⟨rfl, rfl, rfl, rfl, rfl⟩ rfl rfl rfl rfl rfl (by kernel_rfl) Try.func3 (by kernel_rfl)
    (of_decide_eq_true (by kernel_rfl)) (by unfold Func.isWrapper; first | (rw [if_pos (by decide +kernel)]; kernel_rfl) | (rw [if_neg (by decide +kernel)]; exact ⟨rfl, rfl⟩))
    (fun os started H enc _ => signs_lifted os started H enc)
#print axioms rsaSigns_proved
end Go.Proofs.Ytfhhgndppfpngaa
