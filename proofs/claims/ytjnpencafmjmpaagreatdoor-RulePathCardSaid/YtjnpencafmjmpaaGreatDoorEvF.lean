/- Each operation of the model does what the evaluator tells: operators, slices, structs. -/
import Derived.Test.YtjnpencafmjmpaaGreatDoorEvE
set_option linter.unusedVariables false
set_option linter.unusedSimpArgs false
namespace Go.Ev
open Go.RowKit
variable {P : Program} {g : G} {w : World} {H : List ABlk}

theorem eqGuard_run {op : BinOp} {t : TypeId} {xo yo : Operand} {a b : Value} (h1 : a ≠ .nilIface) (h2 : ∀ c, a = .agg c → P.eqGuardType P.depth t = false) : (eqGuard op t xo yo a b).run P w = .ok () w := by
  unfold eqGuard
  by_cases ho : op = .eql ∨ op = .neq
  · cases a <;> cases b <;> first
      | (exact absurd rfl h1)
      | (rcases ho with rfl | rfl <;> simp [h2 _ rfl]; done)
      | (rcases ho with rfl | rfl <;> rfl)
  · cases op <;> first | (simp at ho; done) | rfl
theorem binOp_eql (t : TypeId) (a b : Value) (h : ∀ k n k' n', ¬ (a = .int k n ∧ b = .int k' n')) (h2 : ∀ s u, ¬ (a = .string s ∧ b = .string u)) (h3 : ∀ k n k' n', ¬ (a = .float k n ∧ b = .float k' n')) (h4 : ∀ k n m k' n' m', ¬ (a = .complex k n m ∧ b = .complex k' n' m')) :
    binOp .eql t a b = (do pure (.bool (← Op.equal t a b))) ∧ binOp .neq t a b = (do pure (.bool (!(← Op.equal t a b)))) := by
  cases a <;> cases b <;> first
    | exact ⟨rfl, rfl⟩
    | exact absurd ⟨rfl, rfl⟩ (h _ _ _ _)
    | exact absurd ⟨rfl, rfl⟩ (h2 _ _)
    | exact absurd ⟨rfl, rfl⟩ (h3 _ _ _ _)
    | exact absurd ⟨rfl, rfl⟩ (h4 _ _ _ _ _ _)

/-- What 'evEq' compares is no interface, no number, no string. -/
theorem evEq_shape {t : TypeId} {x y : AV} {a b : Value} {r : Bool} (h : evEq P t x y = some r) (hx : repA g w H x a) (hy : repA g w H y b) :
    a ≠ .nilIface ∧ (∀ c, a = .agg c → P.eqGuardType P.depth t = false) ∧ (∀ k n, a ≠ .int k n) ∧ (∀ s, a ≠ .string s) ∧ (∀ k n, a ≠ .float k n) ∧ (∀ k n m, a ≠ .complex k n m) := by
  unfold evEq at h
  split at h
  case h_1 => simp only [repA, rep] at hx; subst hx; simp
  case h_2 => simp only [repA, rep] at hx; subst hx; simp
  case h_3 => simp only [repA, rep] at hx; subst hx; simp
  case h_4 => simp only [repA, rep] at hx; obtain ⟨A, rfl, _⟩ := hx; simp
  case h_5 => simp only [repA, rep] at hx; subst hx; simp
  case h_6 => simp only [repA, rep] at hx; obtain ⟨_, _, rfl, _⟩ := hx; simp
  case h_7 => simp only [repA, rep] at hx; obtain ⟨_, _, rfl, _⟩ := hx; simp
  case h_8 => simp only [repA, rep] at hx; obtain ⟨_, _, rfl, _⟩ := hx; simp
  case h_9 => simp only [repA, rep] at hx; obtain ⟨_, _, rfl, _⟩ := hx; simp
  case h_10 => simp only [repA, rep] at hx; obtain ⟨_, _, rfl, _⟩ := hx; simp
  case h_11 =>
    simp only [repA, rep] at hx; obtain ⟨_, rfl, _⟩ := hx
    split at h
    · rename_i hc; exact ⟨by simp, fun _ _ => hc.2, by simp, by simp, by simp, by simp⟩
    · cases h
  case h_12 => cases h

theorem evBin_run {op : BinOp} {t : TypeId} {x y z : AV} {a b : Value} (xo yo : Operand) (h : evBin P op t x y = some z) (hx : repA g w H x a) (hy : repA g w H y b) :
    ∃ v, (do eqGuard op t xo yo a b; binOp op t a b : Sem Value).run P w = .ok v w ∧ repA g w H z v := by
  unfold evBin at h
  split at h
  · rename_i k n k' n'
    simp only [repA, rep] at hx hy; subst hx hy
    simp only [Sem.run_bind, eqGuard_run (P := P) (w := w) (op := op) (t := t) (xo := xo) (yo := yo) (a := .int k n) (b := .int k' n') (by simp) (by simp), Result.andThen_ok]
    split at h
    · simp only [Option.map_eq_some_iff] at h; obtain ⟨q, hq, rfl⟩ := h
      simp only [repA]; exact ishift_run (.inl rfl) hq t _ w
    · simp only [Option.map_eq_some_iff] at h; obtain ⟨q, hq, rfl⟩ := h
      simp only [repA]; exact ishift_run (.inr rfl) hq t _ w
    · split at h
      · rename_i hk; subst hk
        simp only [Option.map_eq_some_iff] at h; obtain ⟨q, hq, rfl⟩ := h
        simp only [repA]; exact ibin_run hq t _ w
      · cases h
  · simp only [repA, rep] at hx hy
    obtain ⟨s, rfl, hs⟩ := hx
    obtain ⟨u, rfl, hu⟩ := hy
    simp only [Option.map_eq_some_iff] at h; obtain ⟨q, hq, rfl⟩ := h
    simp only [Sem.run_bind, eqGuard_run (P := P) (w := w) (op := op) (t := t) (xo := xo) (yo := yo) (a := .string s) (b := .string u) (by simp) (by simp), Result.andThen_ok]
    simp only [repA]; exact sbin_run hq t hs hu _ w
  · have key : ∀ r, evEq P t x y = some r → a ≠ .nilIface ∧ (∀ c, a = .agg c → P.eqGuardType P.depth t = false) ∧ binOp .eql t a b = (do pure (.bool (← Op.equal t a b))) ∧ binOp .neq t a b = (do pure (.bool (!(← Op.equal t a b)))) := by
      intro r hr
      obtain ⟨h1, h2, h3, h4, h5, h6⟩ := evEq_shape hr hx hy
      obtain ⟨k1, k2⟩ := binOp_eql t a b (fun k n k' n' h => h3 k n h.1) (fun s u h => h4 s h.1) (fun k n k' n' h => h5 k n h.1) (fun k n m k' n' m' h => h6 k n m h.1)
      exact ⟨h1, h2, k1, k2⟩
    split at h
    · simp only [Option.map_eq_some_iff] at h; obtain ⟨r, hr, rfl⟩ := h
      obtain ⟨h1, h2, k1, _⟩ := key r hr
      refine ⟨.bool r, ?_, by simp only [repA, rep]⟩
      simp only [Sem.run_bind, eqGuard_run (P := P) (w := w) (t := t) (xo := xo) (yo := yo) (b := b) h1 h2, Result.andThen_ok, k1, evEq_run hr hx hy, Sem.run_pure]
    · simp only [Option.map_eq_some_iff] at h; obtain ⟨r, hr, rfl⟩ := h
      obtain ⟨h1, h2, _, k2⟩ := key r hr
      refine ⟨.bool !r, ?_, by simp only [repA, rep]⟩
      simp only [Sem.run_bind, eqGuard_run (P := P) (w := w) (t := t) (xo := xo) (yo := yo) (b := b) h1 h2, Result.andThen_ok, k2, evEq_run hr hx hy, Sem.run_pure]
    · cases h

theorem evUn_run {op : UnOp} {x z : AV} {a : Value} (h : evUn op x = some z) (hx : repA g w H x a) : ∃ v, (Op.unary op a).run P w = .ok v w ∧ repA g w H z v := by
  unfold evUn at h
  split at h
  · simp only [repA, rep] at hx; subst hx
    simp only [ibin, Option.map_some, Option.some.injEq] at h; subst h
    exact ⟨_, rfl, by simp only [repA, rep]⟩
  · simp only [repA, rep] at hx; subst hx
    simp only [ibin, ibits, Option.map_some, Option.some.injEq] at h; subst h
    exact ⟨_, rfl, by simp only [repA, rep]⟩
  · simp only [repA, rep] at hx; subst hx
    cases h
    exact ⟨_, rfl, by simp only [repA, rep]⟩
  · cases h

/-! ### Slicing -/
def optR (g : G) (w : World) (H : List ABlk) (x : Option AV) (v : Option Value) : Prop := match x, v with
  | none, none => True
  | some x, some v => repA g w H x v
  | _, _ => False
theorem sliceBound_run {x : AV} {v : Value} {d y k y' : Nat} {code : BoundsCode} (h : bnd (some x) d y = some k) (hx : repA g w H x v) (hy : y ≤ y') :
    (Instr.sliceBound v y' code).run P w = .ok k w ∧ k ≤ y := by
  unfold bnd at h
  split at h
  · rename_i e; cases e
  · rename_i e; cases e
    simp only [repA, rep] at hx; subst hx
    split at h
    · rename_i hc
      cases h
      refine ⟨?_, by omega⟩
      simp only [Instr.sliceBound, asIntOf, Sem.run_bind, Sem.run_pure, Result.andThen_ok]
      rw [if_pos (by omega)]; rfl
    · cases h
  · cases h
theorem bounds_run {n cap : Nat} (hn : n ≤ cap) (isS : Bool) {lo hi : Option AV} {vl vh : Option Value} {a b : Nat} (h : bounds n lo hi = some (a, b)) (hl : optR g w H lo vl) (hh : optR g w H hi vh) :
    (Instr.sliceBounds isS n cap vl vh none).run P w = .ok (a, b, cap) w ∧ a ≤ b ∧ b ≤ n := by
  unfold bounds at h
  cases hb : bnd hi n n with
  | none => rw [hb] at h; cases h
  | some b0 =>
    rw [hb] at h
    simp only at h
    cases ha : bnd lo 0 b0 with
    | none => rw [ha] at h; cases h
    | some a0 =>
      rw [ha] at h; cases h
      have h2 : (match vh with | some v => Instr.sliceBound v cap (if isS then .sliceAcap else .sliceAlen) | none => (pure n : Sem Nat)).run P w = .ok b w ∧ b ≤ n := by
        cases hi with
        | none => cases vh with
          | none => simp only [bnd] at hb; cases hb; exact ⟨rfl, Nat.le_refl _⟩
          | some v => simp [optR] at hh
        | some x => cases vh with
          | none => simp [optR] at hh
          | some v => exact sliceBound_run hb hh hn
      have h3 : (match vl with | some v => Instr.sliceBound v b .sliceB | none => (pure 0 : Sem Nat)).run P w = .ok a w ∧ a ≤ b := by
        cases lo with
        | none => cases vl with
          | none => simp only [bnd] at ha; cases ha; exact ⟨rfl, Nat.zero_le _⟩
          | some v => simp [optR] at hl
        | some x => cases vl with
          | none => simp [optR] at hl
          | some v => exact sliceBound_run ha hl (Nat.le_refl _)
      refine ⟨?_, h3.2, h2.2⟩
      cases vh with
      | none =>
        simp only [Sem.run_pure, Result.ok.injEq, and_true] at h2
        cases vl with
        | none => simp only [Sem.run_pure, Result.ok.injEq, and_true] at h3; simp [Instr.sliceBounds, h2.1, h3.1]
        | some u => simp [Instr.sliceBounds, h2.1, h3.1]
      | some v =>
        cases vl with
        | none => simp only [Sem.run_pure, Result.ok.injEq, and_true] at h3; simp [Instr.sliceBounds, h2.1, h3.1]
        | some u => simp [Instr.sliceBounds, h2.1, h3.1]
theorem bounds3_run {n cap : Nat} (hn : n ≤ cap) {lo hi : Option AV} {vl vh : Option Value} {a b : Nat} {k : IntKind} {m : Int} (h : bounds n lo hi = some (a, b)) (hs : hi.isSome = true) (hm1 : (b : Int) ≤ m) (hm2 : m ≤ (n : Int)) (hl : optR g w H lo vl) (hh : optR g w H hi vh) :
    (Instr.sliceBounds true n cap vl vh (some (.int k m))).run P w = .ok (a, b, m.toNat) w ∧ a ≤ b ∧ b ≤ n := by
  unfold bounds at h
  cases hi with
  | none => simp at hs
  | some x =>
  cases vh with
  | none => simp [optR] at hh
  | some v =>
  cases hb : bnd (some x) n n with
  | none => rw [hb] at h; cases h
  | some b0 =>
    rw [hb] at h
    simp only at h
    cases ha : bnd lo 0 b0 with
    | none => rw [ha] at h; cases h
    | some a0 =>
      rw [ha] at h; cases h
      have hb' : bnd (some x) n m.toNat = some b := by
        unfold bnd at hb ⊢
        split at hb
        · rename_i e; cases e
        · rename_i e; cases e
          split at hb
          · cases hb; simp only; rw [if_pos (by omega)]
          · cases hb
        · cases hb
      have h2 := sliceBound_run (P := P) (code := .slice3B) hb' hh (Nat.le_refl m.toNat)
      have h1 : (Instr.sliceBound (.int k m) cap .slice3Acap).run P w = .ok m.toNat w := by
        simp only [Instr.sliceBound, asIntOf, Sem.run_bind, Sem.run_pure, Result.andThen_ok]
        rw [if_pos (by omega)]; rfl
      have h3 : (match vl with | some v => Instr.sliceBound v b .slice3C | none => (pure 0 : Sem Nat)).run P w = .ok a w ∧ a ≤ b := by
        cases lo with
        | none => cases vl with
          | none => simp only [bnd] at ha; cases ha; exact ⟨rfl, Nat.zero_le _⟩
          | some v => simp [optR] at hl
        | some x => cases vl with
          | none => simp [optR] at hl
          | some v => exact sliceBound_run ha hl (Nat.le_refl _)
      refine ⟨?_, h3.2, by omega⟩
      cases vl with
      | none => simp only [Sem.run_pure, Result.ok.injEq, and_true] at h3; simp [Instr.sliceBounds, h1, h2.1, h3.1]
      | some u => simp [Instr.sliceBounds, h1, h2.1, h3.1]
theorem repF_drop {F : Nat → Prop} {b off : Nat} {cs : List PV} (n : Nat) (h : repF F w b off cs) : repF F w b (off + n) (cs.drop n) := by
  rw [repF_iff] at h ⊢
  intro i x hx
  rw [List.getElem?_drop] at hx
  obtain ⟨u, hu, hr⟩ := h _ _ hx
  exact ⟨u, by rw [← hu]; congr 2; omega, hr⟩
theorem repF_take {F : Nat → Prop} {b off : Nat} {cs : List PV} (n : Nat) (h : repF F w b off cs) : repF F w b off (cs.take n) := by
  rw [repF_iff] at h ⊢
  intro i x hx
  rw [List.getElem?_take] at hx
  split at hx
  · exact h _ _ hx
  · cases hx
/-- A piece of a slice that nothing changes. -/
theorem rep_slice {F : Nat → Prop} {n : Nat} {cs : List PV} {size a b m cap : Nat} {A : Option Addr} {x' : Bool} (hlen : cs.length = n * size) (hab : a ≤ b) (hbn : b ≤ n) (hbm : b ≤ m) (hmc : m ≤ cap) (hA : A = none → cap = 0)
    (hx : x' = true → m - a = b - a) (hr : cs = [] ∨ ∃ bk off, A = some ⟨bk, off, none⟩ ∧ F bk ∧ repF F w bk off cs) :
    rep F w (.sl (b - a) x' ((cs.drop (a * size)).take ((b - a) * size))) (.slice (if m = a then A else A.map (·.add (a * size))) (b - a) (m - a)) := by
  simp only [rep]
  refine ⟨_, _, rfl, by omega, hx, fun hn => ?_, ?_⟩
  · split at hn
    · omega
    · have := hA (by simpa using hn); omega
  · rcases hr with rfl | ⟨bk, off, rfl, hb, hr⟩
    · left; simp
    · by_cases hm : m = a
      · left
        have : b - a = 0 := by omega
        rw [this]; simp
      · right
        rw [if_neg hm]
        exact ⟨bk, off + a * size, by simp [addr_add], hb, repF_take _ (repF_drop _ hr)⟩
theorem evSlice_run {t : TypeId} {x z : AV} {lo hi mx : Option AV} {v : Value} {vl vh vm : Option Value} (h : evSlice P t x lo hi mx = some z) (hx : repA g w H x v) (hl : optR g w H lo vl) (hh : optR g w H hi vh) (hm : optR g w H mx vm) :
    ∃ u, (Instr.sliceAt t v vl vh vm).run P w = .ok u w ∧ repA g w H z u := by
  unfold evSlice at h
  split at h
  case h_1 l hu =>
    split at h
    case h_1 a b hb =>
      cases h
      cases vm with
      | some _ => simp [optR] at hm
      | none =>
        simp only [repA, rep] at hx
        obtain ⟨s, rfl, rfl⟩ := hx
        have hsz : (s.data.toList.map UInt8.toNat).length = s.size := by rw [List.length_map, Array.length_toList]; rfl
        rw [hsz] at hb
        obtain ⟨h1, h2, h3⟩ := bounds_run (P := P) (Nat.le_refl s.size) false hb hl hh
        refine ⟨.string (s.extract a b), ?_, ?_⟩
        · simp [Instr.sliceAt, Instr.slice, run_underlying hu, h1]
        · simp only [repA, rep]
          refine ⟨_, rfl, ?_⟩
          simp only [ByteArray.data_extract, Array.toList_extract, List.extract_eq_take_drop, List.map_take, List.map_drop]
    case h_2 => cases h
  case h_2 e n xx cs hu =>
    simp only [repA, rep] at hx
    obtain ⟨A, cap, rfl, hc, hex, hA, hr⟩ := hx
    split at h
    case h_1 size a b hsz hb =>
      split at h
      · cases h
      · rename_i hs
        cases h
        cases vm with
        | some _ => simp [optR] at hm
        | none =>
          obtain ⟨h1, h2, h3⟩ := bounds_run (P := P) hc true hb hl hh
          refine ⟨_, by simp only [Instr.sliceAt, Instr.slice, Sem.run_bind, run_underlying hu, Result.andThen_ok, h1, sizeT_run hsz, Sem.run_pure]; rfl, ?_⟩
          simp only [repA]
          refine rep_slice (by omega) h2 h3 (by omega) (Nat.le_refl _) hA (fun he => ?_) hr
          simp only [Bool.and_eq_true, beq_iff_eq] at he
          have := hex he.1; omega
    case h_2 size k m a b hsz hb =>
      split at h
      · cases h
      · rename_i hs
        split at h
        · rename_i hmm
          cases h
          cases vm with
          | none => simp [optR] at hm
          | some u =>
            simp only [optR, repA, rep] at hm; subst hm
            obtain ⟨h1, h2, h3⟩ := bounds3_run (P := P) (k := k) hc hb hmm.1 hmm.2.1 hmm.2.2 hl hh
            refine ⟨_, by simp only [Instr.sliceAt, Instr.slice, Sem.run_bind, run_underlying hu, Result.andThen_ok, h1, sizeT_run hsz, Sem.run_pure]; rfl, ?_⟩
            simp only [repA]
            refine rep_slice (by omega) h2 h3 (by omega) (by omega) hA (fun he => ?_) hr
            simp only [decide_eq_true_eq] at he
            omega
        · cases h
    case h_3 => cases h
  case h_3 e id ver off n sz hu =>
    simp only [repA] at hx
    obtain ⟨A, cap, rfl, hc, B, hB, hv, hr⟩ := hx
    split at h
    case h_1 size a b hsz hb =>
      split at h
      · rename_i hs
        subst hs
        cases h
        cases vm with
        | some _ => simp [optR] at hm
        | none =>
          obtain ⟨h1, h2, h3⟩ := bounds_run (P := P) hc true hb hl hh
          refine ⟨_, by simp only [Instr.sliceAt, Instr.slice, Sem.run_bind, run_underlying hu, Result.andThen_ok, h1, sizeT_run hsz, Sem.run_pure]; rfl, ?_⟩
          simp only [repA]
          refine ⟨if cap = a then A else A.add (a * size), cap - a, by split <;> rfl, by omega, B, hB, hv, fun he => ?_⟩
          obtain ⟨k1, c, e', fr, k2, k3⟩ := hr he
          by_cases hca : cap = a
          · refine ⟨.inl (by omega), c, e', fr, k2, ?_⟩
            have : cap - a = 0 := by omega
            rw [this]; subst hca; omega
          · rw [if_neg hca]
            refine ⟨?_, c, e', fr, k2, ?_⟩
            · rcases k1 with k1 | k1
              · omega
              · right; rw [k1, addr_add]
            · have : off + a * size + (cap - a) * size = off + cap * size := by
                rw [Nat.add_assoc, ← Nat.add_mul]; congr 2; omega
              omega
      · cases h
    case h_2 size k m a b hsz hb =>
      split at h
      · rename_i hs
        obtain ⟨hs, hsome, hm1, hm2⟩ := hs
        subst hs
        cases h
        cases vm with
        | none => simp [optR] at hm
        | some u =>
          simp only [optR, repA, rep] at hm; subst hm
          obtain ⟨h1, h2, h3⟩ := bounds3_run (P := P) (k := k) hc hb hsome hm1 hm2 hl hh
          refine ⟨_, by simp only [Instr.sliceAt, Instr.slice, Sem.run_bind, run_underlying hu, Result.andThen_ok, h1, sizeT_run hsz, Sem.run_pure]; rfl, ?_⟩
          simp only [repA]
          refine ⟨if m.toNat = a then A else A.add (a * size), m.toNat - a, by split <;> rfl, by omega, B, hB, hv, fun he => ?_⟩
          obtain ⟨k1, c, e', fr, k2, k3⟩ := hr he
          by_cases hca : m.toNat = a
          · refine ⟨.inl (by omega), c, e', fr, k2, ?_⟩
            have e0 : m.toNat - a = 0 := by omega
            have : a * size ≤ cap * size := Nat.mul_le_mul_right _ (by omega)
            rw [e0]; omega
          · rw [if_neg hca]
            refine ⟨?_, c, e', fr, k2, ?_⟩
            · rcases k1 with k1 | k1
              · omega
              · right; rw [k1, addr_add]
            · have e1 : off + a * size + (m.toNat - a) * size = off + m.toNat * size := by
                rw [Nat.add_assoc, ← Nat.add_mul]; congr 2; omega
              have : m.toNat * size ≤ cap * size := Nat.mul_le_mul_right _ (by omega)
              omega
      · cases h
    case h_3 => cases h
  case h_4 => cases h
end Go.Ev
