/- The evaluator without a count of rounds: equations. -/
import Derived.Test.YtjnpencafmjmpaaGreatDoorEvO
set_option linter.unusedVariables false
set_option linter.unusedSimpArgs false
namespace Go.Ev
variable {C : Cfg}

def Le {α : Type} (x y : Option α) : Prop := ∀ r, x = some r → y = some r
theorem Le.refl {α : Type} (x : Option α) : Le x x := fun _ h => h
theorem Le.none {α : Type} (x : Option α) : Le Option.none x := fun _ h => by cases h
def LeC (f g : CallE) : Prop := ∀ a b c, Le (f a b c) (g a b c)

theorem evCall_mono {f g : CallE} (h : LeC f g) (st : Bool) (k : FuncId) (args : List AV) (H : List ABlk) : Le (evCall C f st k args H) (evCall C g st k args H) := by
  intro r hr
  unfold evCall at hr ⊢
  split
  · rename_i h9; rw [if_pos h9] at hr; exact hr
  rename_i h9; rw [if_neg h9] at hr
  split
  · rename_i h2; rw [if_pos h2] at hr; exact h _ _ _ _ hr
  rename_i h2; rw [if_neg h2] at hr
  cases hx : mapO (frz false H deep) args with
  | none =>
    rw [hx] at hr
    simp only at hr ⊢
    split
    · rename_i h3; rw [if_pos h3] at hr; exact h _ _ _ _ hr
    · rename_i h3; rw [if_neg h3] at hr; exact hr
  | some xs =>
    rw [hx] at hr
    simp only at hr ⊢
    cases ho : C.O k xs with
    | some q => rw [ho] at hr; exact hr
    | none =>
      rw [ho] at hr
      simp only at hr ⊢
      split
      · rename_i hc
        rw [if_pos hc] at hr
        cases h1 : f k [.p (.nsl true)] [] with
        | none => rw [h1] at hr; cases hr
        | some q1 =>
          cases h2 : f k [.p (.nsl false)] [] with
          | none => rw [h1, h2] at hr; cases hr
          | some q2 => rw [h1, h2] at hr; rw [h _ _ _ _ h1, h _ _ _ _ h2]; exact hr
      rename_i hc
      rw [if_neg hc] at hr
      cases hf : f k (xs.map .p) [] with
      | none => rw [hf] at hr; cases hr
      | some q => rw [hf] at hr; rw [h _ _ _ _ hf]; exact hr
theorem evOp_mono {f g : CallE} (h : LeC f g) (st : Bool) (ρ : Env) (H : List ABlk) (o : Oper) : Le (evOp C f st ρ H o) (evOp C g st ρ H o) := by
  obtain ⟨dst, op, type, pos, after, guard⟩ := o
  cases op <;> first
    | exact Le.refl _
    | skip
  rename_i c
  obtain ⟨callee, cargs, cats⟩ := c
  intro r hr
  simp only [evOp] at hr ⊢
  cases hx : mapO ρ cargs.toList with
  | none => rw [hx] at hr; cases hr
  | some args =>
    rw [hx] at hr
    simp only at hr ⊢
    cases callee with
    | builtin b => exact hr
    | invoke a b => exact hr
    | value v =>
      simp only at hr ⊢
      cases hv : ρ v with
      | none => rw [hv] at hr; cases hr
      | some gv =>
        rw [hv] at hr
        simp only at hr ⊢
        cases hc : calleeOf gv with
        | none => rw [hc] at hr; cases hr
        | some q =>
          obtain ⟨k, a, b⟩ := q
          rw [hc] at hr
          simp only at hr ⊢
          split
          · rename_i h6; rw [if_pos h6] at hr; exact hr
          · rename_i h6; rw [if_neg h6] at hr; exact evCall_mono h _ _ _ _ _ hr
theorem evStep_mono {f g : CallE} (h : LeC f g) (st : Bool) (ops : Array Oper) (o : Oper) (S : St) : Le (evStep C f st ops o S) (evStep C g st ops o S) := by
  intro r hr
  unfold evStep at hr ⊢
  cases hw : wantedA ops S.t o with
  | none => rw [hw] at hr; cases hr
  | some b =>
    rw [hw] at hr
    cases b with
    | false => exact hr
    | true =>
      simp only at hr ⊢
      cases hx : evOp C f st (opv S.t) S.H o with
      | none => rw [hx] at hr; cases hr
      | some q => rw [hx] at hr; rw [evOp_mono h _ _ _ _ _ hx]; exact hr
theorem evOps_mono {f g : CallE} (h : LeC f g) (st : Bool) (ops : Array Oper) : ∀ (l : List Oper) (S : St), Le (evOps C f st ops l S) (evOps C g st ops l S)
  | [], S => Le.refl _
  | o :: l, S => by
    intro r hr
    simp only [evOps] at hr ⊢
    cases hx : evStep C f st ops o S with
    | none => rw [hx] at hr; cases hr
    | some S1 => rw [hx] at hr; rw [evStep_mono h _ _ _ _ _ hx]; exact evOps_mono h st ops l S1 _ hr
theorem evRegion_mono {f g : CallE} (h : LeC f g) (d : Bool) (ops : Array Oper) (S : St) : Le (evRegion C f d ops S) (evRegion C g d ops S) := by
  intro r hr
  unfold evRegion at hr ⊢
  cases d with
  | false => exact evOps_mono h _ _ _ _ _ hr
  | true =>
    simp only [if_true] at hr ⊢
    cases hx : evOps C f false ops ops.toList S with
    | none => rw [hx] at hr; cases hr
    | some S1 =>
      rw [hx] at hr
      rw [evOps_mono h _ _ _ _ _ hx]
      simp only at hr ⊢
      split
      · rename_i hl; rw [if_pos hl] at hr; exact evOps_mono h _ _ _ _ _ hr
      · rename_i hl; rw [if_neg hl] at hr; cases hr
theorem iter_mono {f g : St → Option (Ex × St)} (h : ∀ S, Le (f S) (g S)) : ∀ (n m : Nat), n ≤ m → ∀ S, Le (iter f n S) (iter g m S)
  | 0, m, _, S => by intro r hr; simp [iter] at hr
  | n + 1, m, hm, S => by
    obtain ⟨m, rfl⟩ : ∃ q, m = q + 1 := ⟨m - 1, by omega⟩
    intro r hr
    simp only [iter] at hr ⊢
    cases hx : f S with
    | none => rw [hx] at hr; cases hr
    | some q =>
      obtain ⟨e, S1⟩ := q
      rw [hx] at hr
      rw [h S _ hx]
      cases e with
      | normal => exact iter_mono h n m (by omega) S1 _ hr
      | exit i => exact hr
      | ret => exact hr
theorem evC_mono {f g : CallE} (h : LeC f g) (lv : List Bool) {k k' : Nat} (hk : k ≤ k') : ∀ (c : Code) (S : St), Le (evC C f lv k c S) (evC C g lv k' c S) := by
  intro c
  induction c with
  | region id ops d =>
    intro S r hr
    simp only [evC] at hr ⊢
    cases hx : evRegion C f d ops S with
    | none => rw [hx] at hr; cases hr
    | some S1 => rw [hx] at hr; rw [evRegion_mono h _ _ _ _ hx]; exact hr
  | seq a b iha ihb =>
    intro S r hr
    simp only [evC] at hr ⊢
    cases hx : evC C f lv k a S with
    | none => rw [hx] at hr; cases hr
    | some q =>
      obtain ⟨e, S1⟩ := q
      rw [hx] at hr
      rw [iha S _ hx]
      cases e with
      | normal => exact ihb S1 _ hr
      | exit i => exact hr
      | ret => exact hr
  | cond cn a b iha ihb =>
    intro S r hr
    simp only [evC] at hr ⊢
    split
    · rename_i t ht
      rw [ht] at hr
      simp only at hr
      cases t with
      | true => simp only [if_true] at hr ⊢; exact iha S _ hr
      | false => simp only [Bool.false_eq_true, if_false] at hr ⊢; exact ihb S _ hr
    · rename_i hne
      split at hr
      · rename_i t ht; exact absurd ht (hne t)
      · exact hr
  | block id a ih =>
    intro S r hr
    simp only [evC] at hr ⊢
    cases hx : evC C f lv k a S with
    | none => rw [hx] at hr; cases hr
    | some q => rw [hx] at hr; rw [ih S _ hx]; exact hr
  | loop a ih =>
    intro S r hr
    simp only [evC] at hr ⊢
    exact iter_mono ih k k' hk S _ hr
  | _ => intro S r hr; exact hr
theorem evF_mono1 : ∀ k, LeC (evF C k) (evF C (k + 1))
  | 0 => fun f a H r hr => by simp [evF] at hr
  | k + 1 => fun f a H r hr => by
    have ih := evF_mono1 k
    rw [evF] at hr ⊢
    split
    · rename_i h9; rw [if_pos h9] at hr; cases hr
    rename_i h9; rw [if_neg h9] at hr
    cases hf : C.P.funcs[f]? with
    | none => rw [hf] at hr; cases hr
    | some fn =>
      rw [hf] at hr
      simp only at hr ⊢
      cases hb : fn.body with
      | none => rw [hb] at hr; cases hr
      | some c =>
        rw [hb] at hr
        simp only at hr ⊢
        cases hx : evC C (evF C k) (C.lv f) k c ⟨a ++ List.replicate (fn.ntmps - a.length) (.p .und), H⟩ with
        | none => rw [hx] at hr; cases hr
        | some q => rw [hx] at hr; rw [evC_mono ih (C.lv f) (Nat.le_succ k) c _ _ hx]; exact hr
theorem evF_mono {k k' : Nat} (h : k ≤ k') : LeC (evF C k) (evF C k') := by
  induction h with
  | refl => exact fun _ _ _ => Le.refl _
  | step _ ih => exact fun a b c r hr => evF_mono1 _ a b c r (ih a b c r hr)

/-! ### The limit -/
open Classical in
noncomputable def lim {α : Type} (F : Nat → Option α) : Option α := if h : ∃ k r, F k = some r then some (Classical.choose (Classical.choose_spec h)) else none
theorem lim_iff {α : Type} {F : Nat → Option α} (hm : ∀ k k', k ≤ k' → Le (F k) (F k')) (r : α) : lim F = some r ↔ ∃ k, F k = some r := by
  unfold lim
  constructor
  · intro h
    split at h
    · rename_i hx
      cases h
      exact ⟨_, Classical.choose_spec (Classical.choose_spec hx)⟩
    · cases h
  · rintro ⟨k, hk⟩
    have hx : ∃ k r, F k = some r := ⟨k, r, hk⟩
    rw [dif_pos hx]
    have h1 := Classical.choose_spec (Classical.choose_spec hx)
    generalize hq : Classical.choose (Classical.choose_spec hx) = q at h1
    generalize Classical.choose hx = n at h1
    have e1 := hm n (max n k) (by omega) _ h1
    have e2 := hm k (max n k) (by omega) _ hk
    rw [e1] at e2
    exact e2
theorem lim_eq {α : Type} {F : Nat → Option α} (hm : ∀ k k', k ≤ k' → Le (F k) (F k')) {x : Option α} (h : ∀ r, x = some r ↔ ∃ k, F k = some r) : lim F = x := by
  cases hx : x with
  | some r => rw [lim_iff hm]; exact (h r).1 hx
  | none =>
    cases hl : lim F with
    | none => rfl
    | some r => rw [lim_iff hm] at hl; rw [(h r).2 hl] at hx; cases hx
noncomputable def W (C : Cfg) : CallE := fun f a H => lim fun k => evF C k f a H
theorem W_iff {f : FuncId} {a : List AV} {H : List ABlk} {r : AV × List ABlk} : W C f a H = some r ↔ ∃ k, evF C k f a H = some r := lim_iff (fun k k' h => evF_mono h f a H) r
theorem evF_le_W (k : Nat) : LeC (evF C k) (W C) := fun _ _ _ _ h => W_iff.2 ⟨k, h⟩
noncomputable def WC (C : Cfg) (lv : List Bool) (c : Code) (S : St) : Option (Ex × St) := lim fun k => evC C (evF C k) lv k c S
theorem WC_mono (lv : List Bool) (c : Code) (S : St) : ∀ k k', k ≤ k' → Le (evC C (evF C k) lv k c S) (evC C (evF C k') lv k' c S) := fun k k' h => evC_mono (evF_mono h) lv h c S
theorem WC_iff {lv : List Bool} {c : Code} {S : St} {r : Ex × St} : WC C lv c S = some r ↔ ∃ k, evC C (evF C k) lv k c S = some r := lim_iff (WC_mono lv c S) r
theorem WC_eq {lv : List Bool} {c : Code} {S : St} {x : Option (Ex × St)} (h : ∀ r, x = some r ↔ ∃ k, evC C (evF C k) lv k c S = some r) : WC C lv c S = x := lim_eq (WC_mono lv c S) h

/-! ### Calls in the limit -/
theorem evCall_cont {st : Bool} {f : FuncId} {args : List AV} {H : List ABlk} {r : AV × List ABlk} (h : evCall C (W C) st f args H = some r) : ∃ k, evCall C (evF C k) st f args H = some r := by
  unfold evCall at h
  split at h
  · cases h
  rename_i h9
  split at h
  · rename_i h2
    obtain ⟨k, hk⟩ := W_iff.1 h
    exact ⟨k, by unfold evCall; rw [if_neg h9, if_pos h2]; exact hk⟩
  rename_i h2
  cases hx : mapO (frz false H deep) args with
  | none =>
    rw [hx] at h
    simp only at h
    split at h
    · rename_i h3
      obtain ⟨k, hk⟩ := W_iff.1 h
      exact ⟨k, by unfold evCall; rw [if_neg h9, if_neg h2, hx]; simp only; rw [if_pos h3]; exact hk⟩
    · cases h
  | some xs =>
    rw [hx] at h
    simp only at h
    cases ho : C.O f xs with
    | some q =>
      rw [ho] at h
      exact ⟨0, by unfold evCall; rw [if_neg h9, if_neg h2, hx]; simp only; rw [ho]; exact h⟩
    | none =>
      rw [ho] at h
      simp only at h
      split at h
      · rename_i hc
        cases h1 : W C f [.p (.nsl true)] [] with
        | none => rw [h1] at h; cases h
        | some q1 =>
          cases hw2 : W C f [.p (.nsl false)] [] with
          | none => rw [h1, hw2] at h; cases h
          | some q2 =>
            obtain ⟨k1, hk1⟩ := W_iff.1 h1
            obtain ⟨k2, hk2⟩ := W_iff.1 hw2
            rw [h1, hw2] at h
            exact ⟨max k1 k2, by unfold evCall; rw [if_neg h9, if_neg h2, hx]; simp only; rw [ho]; simp only; rw [if_pos hc, evF_mono (Nat.le_max_left k1 k2) _ _ _ _ hk1, evF_mono (Nat.le_max_right k1 k2) _ _ _ _ hk2]; exact h⟩
      rename_i hc
      cases hw : W C f (xs.map .p) [] with
      | none => rw [hw] at h; cases h
      | some q =>
        rw [hw] at h
        obtain ⟨k, hk⟩ := W_iff.1 hw
        exact ⟨k, by unfold evCall; rw [if_neg h9, if_neg h2, hx]; simp only; rw [ho]; simp only; rw [if_neg hc, hk]; exact h⟩
theorem evOp_cont {st : Bool} {ρ : Env} {H : List ABlk} {o : Oper} {r : AV × List ABlk} (h : evOp C (W C) st ρ H o = some r) : ∃ k, evOp C (evF C k) st ρ H o = some r := by
  obtain ⟨dst, op, type, pos, after, guard⟩ := o
  cases op <;> first
    | exact ⟨0, h⟩
    | skip
  rename_i c
  obtain ⟨callee, cargs, cats⟩ := c
  simp only [evOp] at h
  cases hx : mapO ρ cargs.toList with
  | none => rw [hx] at h; cases h
  | some args =>
    rw [hx] at h
    simp only at h
    cases callee with
    | builtin b => exact ⟨0, by simp only [evOp, hx]; exact h⟩
    | invoke a b => cases h
    | value v =>
      simp only at h
      cases hv : ρ v with
      | none => rw [hv] at h; cases h
      | some gv =>
        rw [hv] at h
        simp only at h
        cases hc : calleeOf gv with
        | none => rw [hc] at h; cases h
        | some q =>
          obtain ⟨k, a, b⟩ := q
          rw [hc] at h
          simp only at h
          split at h
          · rename_i h6
            exact ⟨0, by simp only [evOp, hx, hv, hc]; rw [if_pos h6]; exact h⟩
          · rename_i h6
            obtain ⟨n, hn⟩ := evCall_cont h
            exact ⟨n, by simp only [evOp, hx, hv, hc]; rw [if_neg h6]; exact hn⟩
theorem evStep_cont {st : Bool} {ops : Array Oper} {o : Oper} {S r : St} (h : evStep C (W C) st ops o S = some r) : ∃ k, evStep C (evF C k) st ops o S = some r := by
  unfold evStep at h
  split at h
  · cases h
  · rename_i hw; exact ⟨0, by unfold evStep; rw [hw]; exact h⟩
  · rename_i hw
    split at h
    · cases h
    · rename_i x H1 hx
      obtain ⟨k, hk⟩ := evOp_cont hx
      exact ⟨k, by unfold evStep; rw [hw]; simp only; rw [hk]; exact h⟩
theorem evOps_cont {st : Bool} {ops : Array Oper} : ∀ {l : List Oper} {S r : St}, evOps C (W C) st ops l S = some r → ∃ k, evOps C (evF C k) st ops l S = some r
  | [], S, r, h => ⟨0, h⟩
  | o :: l, S, r, h => by
    simp only [evOps] at h
    cases hx : evStep C (W C) st ops o S with
    | none => rw [hx] at h; cases h
    | some S1 =>
      rw [hx] at h
      obtain ⟨k1, h1⟩ := evStep_cont hx
      obtain ⟨k2, h2⟩ := evOps_cont h
      refine ⟨max k1 k2, ?_⟩
      simp only [evOps]
      rw [evStep_mono (evF_mono (Nat.le_max_left k1 k2)) _ _ _ _ _ h1]
      exact evOps_mono (evF_mono (Nat.le_max_right k1 k2)) _ _ _ _ _ h2
theorem evRegion_cont {d : Bool} {ops : Array Oper} {S r : St} (h : evRegion C (W C) d ops S = some r) : ∃ k, evRegion C (evF C k) d ops S = some r := by
  unfold evRegion at h
  cases d with
  | false =>
    obtain ⟨k, hk⟩ := evOps_cont h
    exact ⟨k, hk⟩
  | true =>
    simp only [if_true] at h
    split at h
    · cases h
    · rename_i S1 h1
      split at h
      · rename_i hl
        obtain ⟨k1, hk1⟩ := evOps_cont h1
        obtain ⟨k2, hk2⟩ := evOps_cont h
        refine ⟨max k1 k2, ?_⟩
        unfold evRegion
        simp only [if_true]
        rw [evOps_mono (evF_mono (Nat.le_max_left k1 k2)) _ _ _ _ _ hk1]
        simp only
        rw [if_pos hl]
        exact evOps_mono (evF_mono (Nat.le_max_right k1 k2)) _ _ _ _ _ hk2
      · cases h

/-! ### The equations -/
section
variable (lv : List Bool) (S : St)
theorem WC_skip : WC C lv .skip S = some (.normal, S) := WC_eq fun r => ⟨fun h => ⟨0, h⟩, fun ⟨_, h⟩ => h⟩
theorem WC_label (l : Nat) : WC C lv (.label l) S = some (.normal, S) := WC_eq fun r => ⟨fun h => ⟨0, h⟩, fun ⟨_, h⟩ => h⟩
theorem WC_exit (id : Nat) : WC C lv (.exit id) S = some (.exit id, S) := WC_eq fun r => ⟨fun h => ⟨0, h⟩, fun ⟨_, h⟩ => h⟩
theorem WC_ret : WC C lv .ret S = some (.ret, S) := WC_eq fun r => ⟨fun h => ⟨0, h⟩, fun ⟨_, h⟩ => h⟩
theorem WC_region (id : Nat) (ops : Array Oper) (d : Bool) : WC C lv (.region id ops d) S = match evRegion C (W C) d ops S with
    | none => none
    | some S1 => some (.normal, ⟨clean lv S1.t, S1.H⟩) := by
  refine WC_eq fun r => ⟨fun h => ?_, fun ⟨k, h⟩ => ?_⟩
  · split at h
    · cases h
    · rename_i S1 h1
      obtain ⟨k, hk⟩ := evRegion_cont h1
      exact ⟨k, by simp only [evC]; rw [hk]; exact h⟩
  · simp only [evC] at h
    cases hx : evRegion C (evF C k) d ops S with
    | none => rw [hx] at h; cases h
    | some S1 => rw [hx] at h; rw [evRegion_mono (evF_le_W k) _ _ _ _ hx]; exact h
theorem WC_seq (a b : Code) : WC C lv (.seq a b) S = match WC C lv a S with
    | some (.normal, S1) => WC C lv b S1
    | r => r := by
  refine WC_eq fun r => ⟨fun h => ?_, fun ⟨k, h⟩ => ?_⟩
  · cases hx : WC C lv a S with
    | none => rw [hx] at h; cases h
    | some q =>
      obtain ⟨e, S1⟩ := q
      obtain ⟨k1, h1⟩ := WC_iff.1 hx
      rw [hx] at h
      cases e with
      | normal =>
        obtain ⟨k2, h2⟩ := WC_iff.1 h
        refine ⟨max k1 k2, ?_⟩
        simp only [evC]
        rw [WC_mono lv a S k1 _ (Nat.le_max_left k1 k2) _ h1]
        exact WC_mono lv b S1 k2 _ (Nat.le_max_right k1 k2) _ h2
      | exit i => exact ⟨k1, by simp only [evC]; rw [h1]; exact h⟩
      | ret => exact ⟨k1, by simp only [evC]; rw [h1]; exact h⟩
  · simp only [evC] at h
    cases hx : evC C (evF C k) lv k a S with
    | none => rw [hx] at h; cases h
    | some q =>
      obtain ⟨e, S1⟩ := q
      rw [hx] at h
      rw [WC_iff.2 ⟨k, hx⟩]
      cases e with
      | normal => exact WC_iff.2 ⟨k, h⟩
      | exit i => exact h
      | ret => exact h
theorem WC_cond (c : Operand) (a b : Code) : WC C lv (.cond c a b) S = match opv S.t c with
    | some (.p (.bool t)) => if t then WC C lv a S else WC C lv b S
    | _ => none := by
  refine WC_eq fun r => ?_
  simp only [evC]
  split
  · rename_i t ht
    simp only [ht]
    cases t with
    | true => simp only [if_true]; exact WC_iff
    | false => simp only [Bool.false_eq_true, if_false]; exact WC_iff
  · rename_i hne
    refine ⟨fun h => (by cases h), fun ⟨_, h⟩ => ?_⟩
    split at h
    · rename_i t ht; exact absurd ht (hne t)
    · exact h
theorem WC_block (id : Nat) (a : Code) : WC C lv (.block id a) S = match WC C lv a S with
    | some (.exit i, S1) => if i = id then some (.normal, S1) else some (.exit i, S1)
    | r => r := by
  refine WC_eq fun r => ⟨fun h => ?_, fun ⟨k, h⟩ => ?_⟩
  · cases hx : WC C lv a S with
    | none => rw [hx] at h; cases h
    | some q =>
      obtain ⟨k1, h1⟩ := WC_iff.1 hx
      rw [hx] at h
      exact ⟨k1, by simp only [evC]; rw [h1]; exact h⟩
  · simp only [evC] at h
    cases hx : evC C (evF C k) lv k a S with
    | none => rw [hx] at h; cases h
    | some q => rw [hx] at h; rw [WC_iff.2 ⟨k, hx⟩]; exact h
theorem WC_loop (a : Code) : WC C lv (.loop a) S = match WC C lv a S with
    | some (.normal, S1) => WC C lv (.loop a) S1
    | r => r := by
  refine WC_eq fun r => ⟨fun h => ?_, fun ⟨k, h⟩ => ?_⟩
  · cases hx : WC C lv a S with
    | none => rw [hx] at h; cases h
    | some q =>
      obtain ⟨e, S1⟩ := q
      obtain ⟨k1, h1⟩ := WC_iff.1 hx
      rw [hx] at h
      cases e with
      | normal =>
        obtain ⟨k2, h2⟩ := WC_iff.1 h
        refine ⟨max k1 k2 + 1, ?_⟩
        simp only [evC, iter]
        rw [WC_mono lv a S k1 _ (by omega) _ h1]
        simp only [evC] at h2
        exact iter_mono (fun S => WC_mono lv a S k2 _ (by omega)) k2 _ (by omega) S1 _ h2
      | exit i => exact ⟨k1 + 1, by simp only [evC, iter]; rw [WC_mono lv a S k1 _ (by omega) _ h1]; exact h⟩
      | ret => exact ⟨k1 + 1, by simp only [evC, iter]; rw [WC_mono lv a S k1 _ (by omega) _ h1]; exact h⟩
  · simp only [evC] at h
    cases k with
    | zero => simp [iter] at h
    | succ k =>
      simp only [iter] at h
      cases hx : evC C (evF C (k + 1)) lv (k + 1) a S with
      | none => rw [hx] at h; cases h
      | some q =>
        obtain ⟨e, S1⟩ := q
        rw [hx] at h
        rw [WC_iff.2 ⟨k + 1, hx⟩]
        cases e with
        | normal => exact WC_iff.2 ⟨k + 1, by simp only [evC]; exact iter_mono (fun S => Le.refl _) k (k + 1) (by omega) S1 _ h⟩
        | exit i => exact h
        | ret => exact h
end
theorem W_eq {f : FuncId} {fn : Func} {c : Code} (h9 : C.md f < 9) (hf : C.P.funcs[f]? = some fn) (hc : fn.body = some c) (args : List AV) (H : List ABlk) :
    W C f args H = match WC C (C.lv f) c ⟨args ++ List.replicate (fn.ntmps - args.length) (.p .und), H⟩ with
    | some (.exit _, _) => none
    | some (_, S) => match evResults C fn S with
      | some x => some (x, S.H)
      | none => none
    | none => none := by
  have hn9 : ¬ 9 ≤ C.md f := by omega
  refine lim_eq (fun k k' h => evF_mono h f args H) fun r => ⟨fun h => ?_, fun ⟨k, h⟩ => ?_⟩
  · cases hx : WC C (C.lv f) c ⟨args ++ List.replicate (fn.ntmps - args.length) (.p .und), H⟩ with
    | none => rw [hx] at h; cases h
    | some q =>
      obtain ⟨k, hk⟩ := WC_iff.1 hx
      rw [hx] at h
      exact ⟨k + 1, by rw [evF, if_neg hn9, hf]; simp only; rw [hc]; simp only; rw [hk]; exact h⟩
  · cases k with
    | zero => simp [evF] at h
    | succ k =>
      rw [evF, if_neg hn9, hf] at h
      simp only at h
      rw [hc] at h
      simp only at h
      cases hx : evC C (evF C k) (C.lv f) k c ⟨args ++ List.replicate (fn.ntmps - args.length) (.p .und), H⟩ with
      | none => rw [hx] at h; cases h
      | some q => rw [hx] at h; rw [WC_iff.2 ⟨k, hx⟩]; exact h
theorem W_sound (hC : CfgOK C) (hok : fnsOK C) : CallOK C (W C) := fun f args H r H' h g w argv hi ha => by
  obtain ⟨k, hk⟩ := W_iff.1 h
  exact evF_sound hC hok k f args H r H' hk g w argv hi ha
end Go.Ev
