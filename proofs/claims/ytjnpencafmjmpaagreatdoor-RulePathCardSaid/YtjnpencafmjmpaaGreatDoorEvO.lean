/- Regions in whatever order; code; functions. -/
import Derived.Test.YtjnpencafmjmpaaGreatDoorEvN
set_option linter.unusedVariables false
set_option linter.unusedSimpArgs false
namespace Go.Ev
open Go.RowKit
variable {g : G} {w : World} {H : List ABlk} {C : Cfg} {call : CallE}

/-- The edges of a region, as 'drawOK' looked at them. -/
structure DrawFacts (C : Cfg) (ops : Array Oper) : Prop where
  low : ∀ (i : Nat) (o : Oper), ops[i]? = some o → ∀ e ∈ preds o, e < i
  pair : ∃ M : Array Nat, ∀ (i j : Nat) (o q : Oper), ops[i]? = some o → ops[j]? = some q → j < i →
    (((M.getD i 0).testBit j = true ∧ (j ∈ preds o ∨ ∃ e ∈ preds o, j < e ∧ (M.getD e 0).testBit j = true)) ∨ ((M.getD i 0).testBit j = false ∧ Oper.apart ops q o = true ∧ commC (cls C q) (cls C o) = true))
theorem drawOK_spec {ops : Array Oper} (h : drawOK C ops = true) : DrawFacts C ops := by
  unfold drawOK at h
  simp only [List.all_eq_true, List.mem_range] at h
  have row : ∀ (i : Nat) (o : Oper), ops[i]? = some o → ((preds o).all (fun e => decide (e < i)) = true ∧ ∀ j, j < i → ∀ q, ops[j]? = some q → (if ((Region.before ops).getD i 0).testBit j then (preds o).contains j || (preds o).any (fun e => decide (j < e) && ((Region.before ops).getD e 0).testBit j) else Oper.apart ops q o && commC (cls C q) (cls C o)) = true) := by
    intro i o ho
    have hi := lt_of_aget ho
    have := h i hi
    rw [ho] at this
    simp only [Bool.and_eq_true, List.all_eq_true, List.mem_range] at this
    refine ⟨by rw [List.all_eq_true]; exact this.1, fun j hj q hq => ?_⟩
    have h2 := this.2 j hj
    rw [hq] at h2
    exact h2
  refine ⟨fun i o ho e he => ?_, Region.before ops, fun i j o q ho hq hj => ?_⟩
  · have := (row i o ho).1
    rw [List.all_eq_true] at this
    simpa using this e he
  · have := (row i o ho).2 j hj q hq
    split at this
    · rename_i hb
      left
      refine ⟨hb, ?_⟩
      simp only [Bool.or_eq_true, List.contains_iff_mem, List.any_eq_true, Bool.and_eq_true, decide_eq_true_eq] at this
      exact this
    · rename_i hb
      right
      simp only [Bool.and_eq_true] at this
      exact ⟨by simpa using hb, this.1, this.2⟩
theorem ready_spec {ops : Array Oper} {listed : Array Bool} {i : Nat} (h : i ∈ Region.ready .any ops listed) : i < ops.size ∧ listed.getD i true = false ∧ ∃ o, ops[i]? = some o ∧ ∀ e ∈ preds o, listed.getD e false = true := by
  unfold Region.ready at h
  simp only [List.mem_filter, List.mem_range, Bool.and_eq_true, Bool.not_eq_true'] at h
  obtain ⟨h1, h2, h3⟩ := h
  refine ⟨h1, h2, ops[i], Array.getElem?_eq_getElem h1, fun e he => ?_⟩
  rw [Array.getElem?_eq_getElem h1] at h3
  simp only [Option.map_some, Option.getD_some] at h3
  simp only [preds, List.mem_map, List.mem_filter] at he
  obtain ⟨ed, ⟨hed, hb⟩, rfl⟩ := he
  rw [Array.all_eq_true] at h3
  obtain ⟨k, hk, hk2⟩ := List.getElem_of_mem hed
  rw [Array.length_toList] at hk
  have := h3 k hk
  rw [Array.getElem_toList] at hk2
  rw [hk2] at this
  simpa [hb] using this
theorem ready_of {ops : Array Oper} {listed : Array Bool} {i : Nat} {o : Oper} (ho : ops[i]? = some o) (h1 : listed.getD i true = false) (h2 : ∀ e ∈ preds o, listed.getD e false = true) : i ∈ Region.ready .any ops listed := by
  unfold Region.ready
  simp only [List.mem_filter, List.mem_range, Bool.and_eq_true, Bool.not_eq_true']
  refine ⟨lt_of_aget ho, h1, ?_⟩
  rw [ho]
  simp only [Option.map_some, Option.getD_some]
  rw [Array.all_eq_true]
  intro k hk
  by_cases hb : Region.binds .any o.after[k] = true
  · have := h2 o.after[k].on (by
      simp only [preds, List.mem_map, List.mem_filter]
      exact ⟨o.after[k], ⟨by simp, hb⟩, rfl⟩)
    simp [this]
  · simp [hb]
/-- What may be next comes to the front. -/
theorem front {ops : Array Oper} {i : Nat} {o : Oper} (ho : ops[i]? = some o) : ∀ (p s : List Nat) (S S' : St), (∀ q ∈ p, ∀ oq, ops[q]? = some oq → Oper.apart ops oq o = true ∧ commC (cls C oq) (cls C o) = true) →
    evIdx C call true ops (p ++ i :: s) S = some S' → ∃ S1, evStep C call true ops o S = some S1 ∧ evIdx C call true ops (p ++ s) S1 = some S'
  | [], s, S, S', _, h => by
    simp only [List.nil_append, evIdx, ho] at h ⊢
    cases hs : evStep C call true ops o S with
    | none => rw [hs] at h; cases h
    | some S1 => rw [hs] at h; exact ⟨S1, rfl, h⟩
  | q :: p, s, S, S', hp, h => by
    simp only [List.cons_append, evIdx] at h ⊢
    cases hq : ops[q]? with
    | none => rw [hq] at h; exact front ho p s S S' (fun r hr => hp r (by simp [hr])) h
    | some oq =>
      rw [hq] at h
      simp only at h ⊢
      cases hs : evStep C call true ops oq S with
      | none => rw [hs] at h; cases h
      | some Sq =>
        rw [hs] at h
        obtain ⟨Si, h1, h2⟩ := front ho p s Sq S' (fun r hr => hp r (by simp [hr])) h
        obtain ⟨ha, hc⟩ := hp q (by simp) oq hq
        obtain ⟨S1, k1, k2⟩ := swap ha hc hs h1
        exact ⟨S1, k1, by rw [k2]; exact h2⟩
theorem any_sound (hC : CfgOK C) (hcall : CallOK C call) {ops : Array Oper} (hd : DrawFacts C ops) (Q : Exit → Act → World → Prop) : ∀ (fuel : Nat) (listed : Array Bool) (L : List Nat) (S S' : St) (g : G) (w : World) (a : Act),
    listed.size = ops.size → (∀ i, i ∈ L ↔ i < ops.size ∧ listed.getD i true = false) → L.Pairwise (· < ·) → (∀ (x : Nat) (o : Oper), ops[x]? = some o → listed.getD x true = true → ∀ e ∈ preds o, listed.getD e false = true) → L.length ≤ fuel →
    evIdx C call true ops L S = some S' → Rel g w S a → (∀ a' w' g', Rel g' w' S' a' → Ext g w S.H g' w' S'.H → Q .normal a' w') → wpAny C.P .any ops Q fuel listed a w := by
  intro fuel
  have none_left : ∀ (listed : Array Bool) (L : List Nat) (S S' : St) (g : G) (w : World) (a : Act), listed.size = ops.size → (∀ i, i ∈ L ↔ i < ops.size ∧ listed.getD i true = false) → L.Pairwise (· < ·) →
      evIdx C call true ops L S = some S' → Rel g w S a → (∀ a' w' g', Rel g' w' S' a' → Ext g w S.H g' w' S'.H → Q .normal a' w') → Region.ready .any ops listed = [] → Q .normal a w := by
    intro listed L S S' g w a hsz hL hP h hr hQ hre
    cases L with
    | nil => cases h; exact hQ a w g hr (Ext.refl _ _ _)
    | cons i L =>
      exfalso
      obtain ⟨hi, hli⟩ := (hL i).1 (by simp)
      have ho : ops[i]? = some ops[i] := Array.getElem?_eq_getElem hi
      have : i ∈ Region.ready .any ops listed := ready_of ho hli fun e he => by
        have hlt := hd.low i _ ho e he
        cases hle : listed.getD e true with
        | false =>
          have := (hL e).2 ⟨by omega, hle⟩
          rcases List.mem_cons.1 this with h | h
          · omega
          · have := (List.pairwise_cons.1 hP).1 e h; omega
        | true =>
          have : e < listed.size := by omega
          simp only [Array.getD, this, dif_pos] at hle ⊢
          exact hle
      rw [hre] at this
      simp at this
  induction fuel with
  | zero =>
    intro listed L S S' g w a hsz hL hP hcl hf h hr hQ
    have hL0 : L = [] := List.eq_nil_of_length_eq_zero (by omega)
    have hre : Region.ready .any ops listed = [] := by
      rw [List.eq_nil_iff_forall_not_mem]
      intro i hi
      obtain ⟨h1, h2, _⟩ := ready_spec hi
      have := (hL i).2 ⟨h1, h2⟩
      rw [hL0] at this
      simp at this
    exact ⟨hre, none_left listed L S S' g w a hsz hL hP h hr hQ hre⟩
  | succ fuel ih =>
    intro listed L S S' g w a hsz hL hP hcl hf h hr hQ
    refine ⟨none_left listed L S S' g w a hsz hL hP h hr hQ, fun i hi => ?_⟩
    obtain ⟨h1, h2, o, ho, hpre⟩ := ready_spec hi
    have hmem := (hL i).2 ⟨h1, h2⟩
    obtain ⟨p, s, rfl⟩ := List.append_of_mem hmem
    have hPp := List.pairwise_append.1 hP
    have hp : ∀ q ∈ p, ∀ oq, ops[q]? = some oq → Oper.apart ops oq o = true ∧ commC (cls C oq) (cls C o) = true := by
      intro q hq oq hoq
      have hlt : q < i := hPp.2.2 q hq i (by simp)
      obtain ⟨M, hM⟩ := hd.pair
      rcases hM i q o oq ho hoq hlt with ⟨hb, hor⟩ | ⟨_, h3, h4⟩
      · exfalso
        have hnq : listed.getD q true = false := ((hL q).1 (by simp [hq])).2
        have hq0 : listed.getD q false = false := by
          have : q < listed.size := by omega
          simp only [Array.getD, this, dif_pos] at hnq ⊢
          exact hnq
        -- whatever is ahead of i is listed
        have key : ∀ n e, e ≤ n → e < ops.size → listed.getD e false = true → (M.getD e 0).testBit q = true → q < e → False := by
          intro n
          induction n with
          | zero => intro e he _ _ _ hqe; omega
          | succ n ihn =>
            intro e he hes hle hbe hqe
            have hoe : ops[e]? = some ops[e] := Array.getElem?_eq_getElem hes
            have hle' : listed.getD e true = true := by
              have : e < listed.size := by omega
              simp only [Array.getD, this, dif_pos] at hle ⊢
              exact hle
            have hpe := hcl e _ hoe hle'
            rcases hM e q _ oq hoe hoq hqe with ⟨_, hor2⟩ | ⟨hb2, _⟩
            · rcases hor2 with h5 | ⟨e2, h5, hqe2, h6⟩
              · rw [hpe q h5] at hq0; cases hq0
              · have hlt2 := hd.low e _ hoe e2 h5
                exact ihn e2 (by omega) (by omega) (hpe e2 h5) h6 hqe2
            · rw [hbe] at hb2; cases hb2
        rcases hor with h5 | ⟨e2, h5, hqe2, h6⟩
        · rw [hpre q h5] at hq0; cases hq0
        · have hlt2 := hd.low i _ ho e2 h5
          exact key e2 e2 (Nat.le_refl _) (by omega) (hpre e2 h5) h6 hqe2
      · exact ⟨h3, h4⟩
    obtain ⟨S1, k1, k2⟩ := front ho p s S S' hp h
    refine evStep_sound hC hcall ho k1 hr _ Q fun a' w' g' j1 j2 => ?_
    refine ih (listed.setIfInBounds i true) (p ++ s) S1 S' g' w' a' (by simpa using hsz) (fun x => ?_) ?_ (fun x ox hox hlx e he => ?_) (by simp at hf ⊢; omega) k2 j1 (fun a2 w2 g2 m1 m2 => hQ a2 w2 g2 m1 (j2.trans m2))
    · have hset : (listed.setIfInBounds i true).getD x true = if x = i then true else listed.getD x true := by
        simp only [Array.getD_eq_getD_getElem?, Array.getElem?_setIfInBounds]
        by_cases hx : i = x
        · subst hx
          have : i < listed.size := by omega
          simp [this]
        · rw [if_neg hx, if_neg (by omega)]
      have hnd : x ∈ p ++ s ↔ x ∈ p ++ i :: s ∧ x ≠ i := by
        simp only [List.mem_append, List.mem_cons]
        have e1 : x ∈ p → x ≠ i := fun hx => by have := hPp.2.2 x hx i (by simp); omega
        have e2 : x ∈ s → x ≠ i := fun hx => by have := (List.pairwise_cons.1 hPp.2.1).1 x hx; omega
        constructor
        · rintro (h | h)
          · exact ⟨.inl h, e1 h⟩
          · exact ⟨.inr (.inr h), e2 h⟩
        · rintro ⟨h | h | h, hne⟩
          · exact .inl h
          · exact absurd h hne
          · exact .inr h
      rw [hnd, hL, hset]
      by_cases hx : x = i
      · simp [hx]
      · simp [hx]
    · exact hP.sublist (List.Sublist.append_left (List.sublist_cons_self _ _) _)
    · have hget : ∀ (y : Nat) (d : Bool), (listed.setIfInBounds i true).getD y d = if y = i ∧ i < listed.size then true else listed.getD y d := by
        intro y d
        simp only [Array.getD_eq_getD_getElem?, Array.getElem?_setIfInBounds]
        by_cases hy : i = y
        · subst hy
          by_cases hlt : i < listed.size
          · simp [hlt]
          · simp [hlt]
        · rw [if_neg hy, if_neg (by omega)]
      rw [hget] at hlx ⊢
      by_cases hxi : x = i
      · subst hxi
        rw [ho] at hox; cases hox
        have := hpre e he
        split
        · rfl
        · exact this
      · rw [if_neg (by omega)] at hlx
        have := hcl x ox hox hlx e he
        split
        · rfl
        · exact this
theorem evRegion_sound (hC : CfgOK C) (hcall : CallOK C call) {id : Nat} {draw : Bool} {ops : Array Oper} {S S' : St} {a : Act} (hok : draw = true → drawOK C ops = true) (h : evRegion C call draw ops S = some S') (hr : Rel g w S a)
    (Q : Exit → Act → World → Prop) (hQ : ∀ a' w' g', Rel g' w' S' a' → Ext g w S.H g' w' S'.H → Q .normal a' w') : (Code.region id ops draw).wp C.P Q a w := by
  unfold evRegion at h
  split at h
  · rename_i hd
    subst hd
    have hdf := drawOK_spec (hok rfl)
    have go : ∀ (S0 : St) (g0 : G), evOps C call true ops ops.toList S0 = some S' → Rel g0 w S0 a → Ext g w S.H g0 w S0.H → (Code.region id ops true).wp C.P Q a w := by
      intro S0 g0 h0 hr0 hx0
      refine wp_region_any hC.mixed ?_
      have hr1 : Rel g0 { w with drawn := w.drawn + 1 } S0 a := ⟨drawn_inv hr0.inv _, repLA_mono (drawn_ext g0 w S0.H _) hr0.tmps, hr0.defers⟩
      refine any_sound hC hcall hdf Q ops.size _ (List.range ops.size) S0 S' g0 _ a (by simp) (fun i => ?_) List.pairwise_lt_range (fun x o ho hx => ?_) (by simp) (by rw [evIdx_ops, range_ops]; exact h0) hr1 (fun a' w' g' k1 k2 => hQ a' w' g' k1 ((hx0.trans (drawn_ext g0 w S0.H _)).trans k2))
      · simp only [List.mem_range, Array.getD_eq_getD_getElem?, Array.getElem?_replicate]
        constructor
        · intro hi; exact ⟨hi, by simp [hi]⟩
        · exact fun h => h.1
      · have hlt := lt_of_aget ho
        simp only [Array.getD_eq_getD_getElem?, Array.getElem?_replicate, hlt, if_true, Option.getD_some] at hx
        cases hx
    split at h
    · cases h
    · rename_i S1 hS1
      split at h
      · rename_i hle
        have hu := fzUp_flags hle
        exact go _ _ h ⟨fz_inv hr.inv hu, repLA_mono (fz_ext hr.inv hu) hr.tmps, hr.defers⟩ (fz_ext hr.inv hu)
      · cases h
  · rename_i hd
    have hd' : draw = false := by simpa using hd
    subst hd'
    refine wp_region ?_
    exact evIdx_sound hC hcall Q _ S S' g w a (by rw [evIdx_ops, range_ops]; exact h) hr hQ
theorem clean_rep : ∀ {lv : List Bool} {t : List AV} {vs : List Value}, repLA g w H t vs → repLA g w H (clean lv t) vs
  | [], t, vs, h => by cases t <;> exact h
  | b :: lv, [], vs, h => h
  | b :: lv, x :: t, [], h => by simp [repLA] at h
  | b :: lv, x :: t, v :: vs, h => by
    simp only [repLA] at h
    simp only [clean, repLA]
    refine ⟨?_, clean_rep h.2⟩
    cases b
    · simp [repA, rep]
    · exact h.1

def Ex.conv : Ex → Exit
  | .normal => .normal
  | .exit i => .exit i
  | .ret => .ret
def codeOK (C : Cfg) : Code → Bool
  | .region _ ops draw => !draw || drawOK C ops
  | .seq a b => codeOK C a && codeOK C b
  | .cond _ a b => codeOK C a && codeOK C b
  | .block _ a => codeOK C a
  | .loop a => codeOK C a
  | _ => true
theorem evC_sound (hC : CfgOK C) (hcall : CallOK C call) (lv : List Bool) (k : Nat) : ∀ (c : Code), codeOK C c = true → ∀ (S : St) (ex : Ex) (S' : St), evC C call lv k c S = some (ex, S') → ∀ (g : G) (w : World) (a : Act) (Q : Exit → Act → World → Prop), Rel g w S a →
    (∀ a' w' g', Rel g' w' S' a' → Ext g w S.H g' w' S'.H → Q ex.conv a' w') → c.wp C.P Q a w := by
  intro c
  induction c with
  | skip => intro _ S ex S' h g w a Q hr hQ; simp only [evC] at h; cases h; exact wp_skip (hQ a w g hr (Ext.refl _ _ _))
  | label l => intro _ S ex S' h g w a Q hr hQ; simp only [evC] at h; cases h; exact wp_label (hQ a w g hr (Ext.refl _ _ _))
  | region id ops draw =>
    intro hok S ex S' h g w a Q hr hQ
    simp only [evC] at h
    split at h
    · cases h
    · rename_i S1 hS1
      cases h
      refine evRegion_sound hC hcall (fun hd => ?_) hS1 hr Q fun a' w' g' h1 h2 => hQ a' w' g' ⟨h1.inv, clean_rep h1.tmps, h1.defers⟩ h2
      simp only [codeOK, hd, Bool.not_true, Bool.false_or] at hok
      exact hok
  | seq x y ihx ihy =>
    intro hok S ex S' h g w a Q hr hQ
    simp only [codeOK, Bool.and_eq_true] at hok
    simp only [evC] at h
    refine wp_seq ?_
    split at h
    · rename_i S1 h1
      refine ihx hok.1 S .normal S1 h1 g w a _ hr fun a' w' g' k1 k2 => ?_
      exact ihy hok.2 S1 ex S' h g' w' a' Q k1 fun a2 w2 g2 m1 m2 => hQ a2 w2 g2 m1 (k2.trans m2)
    · rename_i hne
      refine ihx hok.1 S ex S' h g w a _ hr fun a' w' g' k1 k2 => ?_
      have := hQ a' w' g' k1 k2
      cases ex with
      | normal => exact absurd h (hne S')
      | exit i => exact this
      | ret => exact this
  | cond cnd x y ihx ihy =>
    intro hok S ex S' h g w a Q hr hQ
    simp only [codeOK, Bool.and_eq_true] at hok
    simp only [evC] at h
    split at h
    · rename_i t ht
      have hv := opv_rep hr.tmps ht
      simp only [repA, rep] at hv
      refine wp_cond hv ?_
      cases t
      · simp only [Bool.false_eq_true, if_false] at h ⊢; exact ihy hok.2 S ex S' h g w a Q hr hQ
      · simp only [if_true] at h ⊢; exact ihx hok.1 S ex S' h g w a Q hr hQ
    · cases h
  | block id x ih =>
    intro hok S ex S' h g w a Q hr hQ
    simp only [codeOK] at hok
    simp only [evC] at h
    refine wp_block ?_
    split at h
    · rename_i i S1 h1
      split at h
      · rename_i he
        cases h
        refine ih hok S _ S' h1 g w a _ hr fun a' w' g' k1 k2 => ?_
        simp only [Ex.conv, Exit.inBlock, he, if_true]
        exact hQ a' w' g' k1 k2
      · rename_i he
        cases h
        refine ih hok S _ S' h1 g w a _ hr fun a' w' g' k1 k2 => ?_
        simp only [Ex.conv, Exit.inBlock, he, if_false]
        exact hQ a' w' g' k1 k2
    · rename_i hne
      refine ih hok S ex S' h g w a _ hr fun a' w' g' k1 k2 => ?_
      have := hQ a' w' g' k1 k2
      cases ex with
      | normal => exact this
      | exit i => exact absurd h (hne i S')
      | ret => exact this
  | loop x ih =>
    intro hok S ex S' h g w a Q hr hQ
    simp only [codeOK] at hok
    simp only [evC] at h
    refine wp_loop_rounds k ?_
    have key : ∀ (n : Nat) (S : St) (g : G) (w : World) (a : Act), iter (evC C call lv k x) n S = some (ex, S') → Rel g w S a → (∀ a' w' g', Rel g' w' S' a' → Ext g w S.H g' w' S'.H → Q ex.conv a' w') → Code.rounds C.P x Q n a w := by
      intro n
      induction n with
      | zero => intro S g w a h; simp [iter] at h
      | succ n ihn =>
        intro S g w a h hr hQ
        rw [rounds_succ]
        simp only [iter] at h
        split at h
        · rename_i S1 h1
          refine ih hok S .normal S1 h1 g w a _ hr fun a' w' g' k1 k2 => ?_
          exact ihn S1 g' w' a' h k1 fun a2 w2 g2 m1 m2 => hQ a2 w2 g2 m1 (k2.trans m2)
        · rename_i hne
          refine ih hok S ex S' h g w a _ hr fun a' w' g' k1 k2 => ?_
          have := hQ a' w' g' k1 k2
          cases ex with
          | normal => exact absurd h (hne S')
          | exit i => exact this
          | ret => exact this
    exact key k S g w a h hr hQ
  | exit id => intro _ S ex S' h g w a Q hr hQ; simp only [evC] at h; cases h; exact wp_exit (hQ a w g hr (Ext.refl _ _ _))
  | ret => intro _ S ex S' h g w a Q hr hQ; simp only [evC] at h; cases h; exact wp_ret (hQ a w g hr (Ext.refl _ _ _))
  | rangeFunc => intro _ S ex S' h; simp [evC] at h
  | scope => intro _ S ex S' h; simp [evC] at h
  | goto => intro _ S ex S' h; simp [evC] at h
  | refuse => intro _ S ex S' h; simp [evC] at h

def resV (a : Act) : ResultVar → Sem Value
  | .tmp t => pure (a.tmps.getD t undef)
  | .cell b t => do loadVar t (← asAddr (a.tmps.getD b undef))
theorem evResult_run {S : St} {a : Act} {r : ResultVar} {x : AV} (hr : Rel g w S a) (h : evResult C S r = some x) :
    ∃ v, (resV a r).run C.P w = .ok v w ∧ repA g w S.H x v := by
  cases r with
  | tmp t =>
    simp only [evResult] at h
    exact ⟨_, rfl, opv_rep hr.tmps h⟩
  | cell b t =>
    simp only [evResult] at h
    split at h
    · rename_i y hy
      have hv : repA g w S.H y (a.tmps.getD b undef) := opv_rep hr.tmps hy
      obtain ⟨u, h1, h2⟩ := evLoad_run (P := C.P) hr.inv h hv
      refine ⟨u, ?_, h2⟩
      have hp : ∃ A, a.tmps.getD b undef = .pointer (some A) := by
        unfold evLoad at h
        split at h
        · simp only [repA] at hv; obtain ⟨A, hA, _⟩ := hv; exact ⟨A, hA⟩
        · simp only [repA] at hv; obtain ⟨A, hA, _⟩ := hv; exact ⟨A, hA⟩
        · simp only [repA] at hv; obtain ⟨b, off, hA, _⟩ := hv; exact ⟨_, hA⟩
        · simp only [repA] at hv; obtain ⟨b, off, hA, _⟩ := hv; exact ⟨_, hA⟩
        · cases h
      obtain ⟨A, hA⟩ := hp
      rw [hA] at h1
      simp only [resV, hA, asAddr, Sem.run_bind, Sem.run_pure, Result.andThen_ok]
      simpa only [Instr.loadAt, Instr.sureAddr, Sem.run_bind, Sem.run_pure, Result.andThen_ok] using h1
    · cases h
theorem mapM_results {S : St} {a : Act} (hr : Rel g w S a) : ∀ {rs : List ResultVar} {xs : List AV}, mapO (evResult C S) rs = some xs → ∃ vs : List Value, (rs.mapM (resV a)).run C.P w = .ok vs w ∧ repLA g w S.H xs vs
  | [], xs, h => by simp [mapO] at h; subst h; exact ⟨[], by simp, by simp [repLA]⟩
  | r :: rs, xs, h => by
    simp only [mapO] at h
    cases hx : evResult C S r with
    | none => rw [hx] at h; cases h
    | some x =>
      rw [hx] at h
      simp only at h
      split at h
      · cases h
      · rename_i ys hys
        cases h
        obtain ⟨v, h1, h2⟩ := evResult_run hr hx
        obtain ⟨vs, k1, k2⟩ := mapM_results hr hys
        refine ⟨v :: vs, ?_, by simp only [repLA]; exact ⟨h2, k2⟩⟩
        simp only [List.mapM_cons, Sem.run_bind, h1, Result.andThen_ok, k1, Sem.run_pure]
theorem results_eq (fn : Func) (a : Act) : results fn a.tmps = (do let vs ← fn.results.mapM (resV a); pure (if h : vs.size = 1 then vs[0] else .tuple vs)) := by
  have : ∃ F : ResultVar → Sem Value, results fn a.tmps = (do let vs ← fn.results.mapM F; pure (if h : vs.size = 1 then vs[0] else .tuple vs)) ∧ ∀ r, F r = resV a r := ⟨_, rfl, fun r => by cases r <;> rfl⟩
  obtain ⟨F, h1, h2⟩ := this
  rw [h1, show F = resV a from funext h2]
theorem evResults_run {S : St} {a : Act} {fn : Func} {x : AV} (hr : Rel g w S a) (h : evResults C fn S = some x) : ∃ v, (results fn a.tmps).run C.P w = .ok v w ∧ repA g w S.H x v := by
  unfold evResults at h
  have run : ∀ xs, mapO (evResult C S) fn.results.toList = some xs → ∃ vs : List Value, (results fn a.tmps).run C.P w = .ok (if h : vs.toArray.size = 1 then vs.toArray[0] else .tuple vs.toArray) w ∧ repLA g w S.H xs vs := by
    intro xs hx
    obtain ⟨vs, k1, k2⟩ := mapM_results hr hx
    refine ⟨vs, ?_, k2⟩
    rw [results_eq, Array.mapM_eq_mapM_toList]
    simp only [Sem.run_bind, Sem.run_map]
    rw [k1]
    rfl
  split at h
  · rename_i y hy
    cases h
    obtain ⟨vs, k1, k2⟩ := run _ hy
    match vs, k2 with
    | [v], k2 =>
      simp only [repLA, and_true] at k2
      exact ⟨v, by rw [k1]; simp, k2⟩
  · rename_i xs hne hy
    cases h
    obtain ⟨vs, k1, k2⟩ := run _ hy
    refine ⟨.tuple vs.toArray, ?_, mkTup_rep k2⟩
    have hl := repLA_length k2
    rw [k1, dif_neg]
    intro h1
    simp only [List.size_toArray] at h1
    match xs, hl with
    | [y], hl => exact hne y rfl
    | [], hl => simp at hl; omega
    | _ :: _ :: _, hl => simp at hl; omega
  · cases h
def fnsOK (C : Cfg) : Prop := ∀ f fn c, C.md f < 9 → C.P.funcs[f]? = some fn → fn.body = some c → codeOK C c = true
theorem evF_sound (hC : CfgOK C) (hok : fnsOK C) : ∀ k, CallOK C (evF C k) := by
  intro k
  induction k with
  | zero => intro f args H r H' h; simp [evF] at h
  | succ k ih =>
    intro f args H r H' h g w argv hi ha
    simp only [evF] at h
    split at h
    · cases h
    rename_i h9
    split at h
    · cases h
    rename_i fn hfn
    split at h
    · cases h
    rename_i c hc
    refine calls_of_wp hfn hc ?_
    have hl : args.length = argv.size := (repLA_length ha).trans Array.length_toList
    have hr : Rel g w ⟨args ++ List.replicate (fn.ntmps - args.length) (.p .und), H⟩ { tmps := argv ++ Array.replicate (fn.ntmps - argv.size) undef, defers := [] } := by
      refine ⟨hi, ?_, rfl⟩
      simp only [Array.toList_append, Array.toList_replicate]
      rw [hl]
      refine repLA_append ha ?_
      rw [repLA_iff]
      refine ⟨by simp, fun i x hx => ?_⟩
      rw [List.getElem?_replicate] at hx ⊢
      split at hx
      · rename_i hlt; cases hx; exact ⟨undef, by simp [hlt], by simp [repA, rep]⟩
      · cases hx
    have fin : ∀ (ex : Ex) (S : St), (ex = .normal ∨ ex = .ret) → evC C (evF C k) (C.lv f) k c ⟨args ++ List.replicate (fn.ntmps - args.length) (.p .und), H⟩ = some (ex, S) → (match evResults C fn S with | some x => some (x, S.H) | none => none) = some (r, H') →
        c.wp C.P (bodyPost C.P fn (CallPost g w H r H')) { tmps := argv ++ Array.replicate (fn.ntmps - argv.size) undef, defers := [] } w := by
      intro ex S hex hev hres
      split at hres
      · rename_i x hx
        cases hres
        refine evC_sound hC ih (C.lv f) k c (hok f fn c (by omega) hfn hc) _ ex S hev g w _ _ hr fun a' w' g' k1 k2 => ?_
        obtain ⟨v, m1, m2⟩ := evResults_run k1 hx
        rcases hex with rfl | rfl
        · exact ⟨k1.defers, v, m1, v, g', rfl, k1.inv, k2, m2⟩
        · exact ⟨k1.defers, v, m1, v, g', rfl, k1.inv, k2, m2⟩
      · cases hres
    split at h
    · cases h
    · rename_i ex S hne hev
      refine fin ex S ?_ hev h
      cases ex with
      | normal => exact .inl rfl
      | ret => exact .inr rfl
      | exit i => exact (hne i rfl).elim
    · cases h
end Go.Ev
