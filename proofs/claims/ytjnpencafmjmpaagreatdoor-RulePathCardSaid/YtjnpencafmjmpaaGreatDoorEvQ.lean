/- The evaluator's conditions, asked of a table. -/
import Derived.Test.YtjnpencafmjmpaaGreatDoorEvP
set_option linter.unusedVariables false
namespace Go.Ev

/-- May a function be run? -/
def fOK (C : Cfg) (f : Nat) : Bool :=
  match C.P.funcs[f]? with
  | none => false
  | some fn => !(fn.name == "runtime.NumGoroutine") && match fn.body with
    | some c => codeOK C c
    | none => false
theorem tab_ok {C : Cfg} {n : Nat} (hn : ∀ f, C.md f < 9 → f < n) (h : ((List.range n).all fun f => decide (9 ≤ C.md f) || C.md f == 6 || fOK C f) = true)
    (ora : OraOK C) (mixed : C.P.follows .mixedOrders = true)
    (nz : ∀ f, C.md f = 6 → ∃ fn e t, C.P.funcs[f]? = some fn ∧ (fn.name == "runtime.NumGoroutine") = false ∧ fn.body = none ∧ (Extern.findNext fn).isNone = true ∧ Extern.find fn = some (Extern.BytealgMakeNoZero.makeNoZero fn.params fn.resultTypes) ∧ fn.resultTypes = #[t] ∧ C.P.underlying t = some (.slice e)) :
    CfgOK C ∧ fnsOK C := by
  have key : ∀ f, C.md f < 9 → C.md f ≠ 6 → fOK C f = true := by
    intro f hf h6
    have := List.all_eq_true.1 h f (List.mem_range.2 (hn f hf))
    simp only [Bool.or_eq_true, decide_eq_true_eq, beq_iff_eq] at this
    rcases this with (h1 | h1) | h1
    · omega
    · exact absurd h1 h6
    · exact h1
  refine ⟨⟨fun f hf h6 => ?_, ora, nz, mixed⟩, fun f fn c hf hfn hc => ?_⟩
  · have := key f hf h6
    unfold fOK at this
    split at this
    · cases this
    · rename_i fn hfn
      simp only [Bool.and_eq_true, Bool.not_eq_true'] at this
      refine ⟨fn, hfn, this.1, ?_⟩
      have h2 := this.2
      split at h2
      · rename_i c hc; rw [hc]; rfl
      · cases h2
  · by_cases h6 : C.md f = 6
    · obtain ⟨fn', _, _, h1, _, h2, _⟩ := nz f h6
      rw [hfn] at h1; cases h1
      rw [hc] at h2; cases h2
    · have := key f hf h6
      unfold fOK at this
      rw [hfn] at this
      simp only [Bool.and_eq_true, hc] at this
      exact this.2
theorem ora_none {P : Program} {md : FuncId → Nat} {lv : FuncId → List Bool} : OraOK { P := P, O := fun _ _ => none, md := md, lv := lv } := fun _ _ _ h => by cases h
theorem W_of_evF {C : Cfg} (k : Nat) {f : FuncId} {a : List AV} {H : List ABlk} {r : AV × List ABlk} (h : evF C k f a H = some r) : W C f a H = some r := evF_le_W k _ _ _ _ h

/-- A table's conditions. -/
def tabCfg (P : Program) (L : List Nat) : Cfg := { P := P, O := fun _ _ => none, md := fun f => L.getD f 9, lv := fun _ => [] }
theorem tab_lt {L : List Nat} {f : Nat} (h : L.getD f 9 < 9) : f < L.length := by
  by_cases hf : f < L.length
  · exact hf
  · rw [List.getD_eq_getElem?_getD, List.getElem?_eq_none (by omega)] at h; simp at h
theorem tabCfg_ok {P : Program} {L : List Nat} (h : ((List.range L.length).all fun f => decide (9 ≤ L.getD f 9) || L.getD f 9 == 6 || fOK (tabCfg P L) f) = true)
    (mixed : P.follows .mixedOrders = true) (h6 : L.contains 6 = false) : CfgOK (tabCfg P L) ∧ fnsOK (tabCfg P L) := by
  refine tab_ok (n := L.length) (fun f hf => tab_lt hf) h ora_none mixed fun f hf => ?_
  have hf' : L.getD f 9 = 6 := hf
  have hl := tab_lt (L := L) (f := f) (by omega)
  have : (6 : Nat) ∈ L := by
    rw [← hf', List.getD_eq_getElem?_getD, List.getElem?_eq_getElem hl]
    exact List.getElem_mem hl
  simp only [List.contains_eq_mem, decide_eq_false_iff_not] at h6
  exact absurd this h6

/-! ### A call that is handed what nothing changes -/
noncomputable def WP (C : Cfg) (f : FuncId) (xs : List PV) : Option PV := match W C f (xs.map .p) [] with
  | some (r, Hc) => frz false Hc deep r
  | none => none
def evP (C : Cfg) (k : Nat) (f : FuncId) (xs : List PV) : Option PV := match evF C k f (xs.map .p) [] with
  | some (r, Hc) => frz false Hc deep r
  | none => none
theorem WP_run {C : Cfg} (k : Nat) {f : FuncId} {xs : List PV} {x : PV} (h : evP C k f xs = some x) : WP C f xs = some x := by
  unfold evP at h
  split at h
  · rename_i r Hc hr
    unfold WP
    rw [W_of_evF k hr]
    exact h
  · cases h
theorem WP_eq {C : Cfg} {f : FuncId} {fn : Func} {c : Code} (h9 : C.md f < 9) (hf : C.P.funcs[f]? = some fn) (hc : fn.body = some c) (xs : List PV) :
    WP C f xs = match WC C (C.lv f) c ⟨xs.map .p ++ List.replicate (fn.ntmps - xs.length) (.p .und), []⟩ with
    | some (.exit _, _) => none
    | some (_, S) => match evResults C fn S with
      | some x => frz false S.H deep x
      | none => none
    | none => none := by
  unfold WP
  rw [W_eq h9 hf hc, List.length_map]
  cases WC C (C.lv f) c ⟨xs.map .p ++ List.replicate (fn.ntmps - xs.length) (.p .und), []⟩ with
  | none => rfl
  | some q =>
    obtain ⟨e, S⟩ := q
    cases e <;> simp only <;> cases evResults C fn S <;> rfl
theorem evCall_pure {C : Cfg} {st : Bool} {f : FuncId} {args : List AV} {H : List ABlk} {xs : List PV} (h0 : C.md f = 0) (ho : C.O f xs = none) (hx : mapO (frz false H deep) args = some xs) :
    evCall C (W C) st f args H = match WP C f xs with
      | none => none
      | some x => tell (!st || (mapO (frz true H deep) args).isSome) H (if st then H else mark (args.flatMap (ids H deep)) H) x := by
  unfold evCall WP
  rw [if_neg (by omega), if_neg (by omega), hx]
  simp only
  rw [ho]
  simp only
  rw [if_neg (fun h => by omega)]
  cases W C f (xs.map .p) [] with
  | none => rfl
  | some q =>
    obtain ⟨r, Hc⟩ := q
    simp only
    rw [if_neg (by omega)]
    cases frz false Hc deep r <;> rfl
theorem beqs : (false == true) = false ∧ (true == false) = false ∧ (true == true) = true ∧ (false == false) = true := by decide
theorem evCall_tab {C : Cfg} (hO : ∀ f xs, C.O f xs = none) {st : Bool} {f : FuncId} {args : List AV} {H : List ABlk} (h0 : C.md f = 0) :
    evCall C (W C) st f args H = match mapO (frz false H deep) args with
      | none => none
      | some xs => match WP C f xs with
        | none => none
        | some x => tell (!st || (mapO (frz true H deep) args).isSome) H (if st then H else Go.Ev.mark (args.flatMap (ids H deep)) H) x := by
  cases hx : mapO (frz false H deep) args with
  | none =>
    unfold evCall
    rw [if_neg (by omega), if_neg (by omega), hx]
    simp only
    rw [if_neg (by omega)]
  | some xs => exact evCall_pure h0 (hO f xs) hx
end Go.Ev
