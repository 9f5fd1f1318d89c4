/- Contracts by a table of answers that were shown ahead. -/
import Derived.Test.YtjnpencafmjmpaaGreatDoorEvR
set_option linter.unusedVariables false
namespace Go.Ev

mutual
/-- Are two values one? Functions are not looked at. -/
def eqPV : PV → PV → Bool
  | .int k a, .int k' b => decide (k = k') && decide (a = b)
  | .bool a, .bool b => a == b
  | .str a, .str b => decide (a = b)
  | .nilp, .nilp => true
  | .nilf, .nilf => true
  | .nsl a, .nsl b => a == b
  | .sl n x cs, .sl m y ds => decide (n = m) && x == y && eqPVL cs ds
  | .agg cs, .agg ds => eqPVL cs ds
  | .tup cs, .tup ds => eqPVL cs ds
  | _, _ => false
def eqPVL : List PV → List PV → Bool
  | [], [] => true
  | x :: xs, y :: ys => eqPV x y && eqPVL xs ys
  | _, _ => false
end
theorem eqPV_all : ∀ n, (∀ x : PV, SizeOf.sizeOf x ≤ n → ∀ y, eqPV x y = true → x = y) ∧ (∀ xs : List PV, SizeOf.sizeOf xs ≤ n → ∀ ys, eqPVL xs ys = true → xs = ys) := by
  intro n
  induction n with
  | zero =>
    refine ⟨fun x hx => ?_, fun xs hx => ?_⟩
    · cases x <;> simp at hx <;> omega
    · cases xs <;> simp at hx
  | succ n ih =>
    obtain ⟨ih1, ih2⟩ := ih
    refine ⟨fun x hx y h => ?_, fun xs hx ys h => ?_⟩
    · cases x <;> cases y <;> simp [eqPV] at h ⊢ <;> simp at hx
      · exact h
      · exact h
      · exact h
      · exact h
      · exact ⟨h.1.1, h.1.2, ih2 _ (by omega) _ h.2⟩
      · exact ih2 _ (by omega) _ h
      · exact ih2 _ (by omega) _ h
    · match xs, ys, h with
      | [], [], _ => rfl
      | x :: xs, y :: ys, h =>
        simp at hx
        simp only [eqPVL, Bool.and_eq_true] at h
        rw [ih1 x (by omega) y h.1, ih2 xs (by omega) ys h.2]
theorem eqPVL_eq {xs ys : List PV} (h : eqPVL xs ys = true) : xs = ys := (eqPV_all (SizeOf.sizeOf xs)).2 xs (Nat.le_refl _) ys h
theorem eqPV_eq {x y : PV} (h : eqPV x y = true) : x = y := (eqPV_all (SizeOf.sizeOf x)).1 x (Nat.le_refl _) y h

structure Fact where
  f : FuncId
  xs : List PV
  r : PV
def Fact.ok (C : Cfg) (a : Fact) : Prop := WP C a.f a.xs = some a.r
def tabO (T : List Fact) (f : FuncId) (xs : List PV) : Option PV := match T with
  | [] => none
  | a :: T => if Nat.beq a.f f then if eqPVL a.xs xs then some a.r else tabO T f xs else tabO T f xs
theorem tabO_some : ∀ {T : List Fact} {f : FuncId} {xs : List PV} {r : PV}, tabO T f xs = some r → ∃ a ∈ T, a.f = f ∧ a.xs = xs ∧ a.r = r
  | [], _, _, _, h => by simp [tabO] at h
  | a :: T, f, xs, r, h => by
    simp only [tabO] at h
    split at h
    · rename_i hf
      split at h
      · rename_i hx
        cases h
        exact ⟨a, by simp, Nat.eq_of_beq_eq_true hf, eqPVL_eq hx, rfl⟩
      · obtain ⟨b, hb, h⟩ := tabO_some h
        exact ⟨b, by simp [hb], h⟩
    · obtain ⟨b, hb, h⟩ := tabO_some h
      exact ⟨b, by simp [hb], h⟩
theorem tabO_none : ∀ {T : List Fact} {f : FuncId} (h : (T.all fun a => !(Nat.beq a.f f)) = true) (xs : List PV), tabO T f xs = none
  | [], _, _, _ => rfl
  | a :: T, f, h, xs => by
    simp only [List.all_cons, Bool.and_eq_true, Bool.not_eq_true'] at h
    simp only [tabO, h.1]
    rw [if_neg (by simp)]
    exact tabO_none h.2 xs
/-- The same program with a table. -/
def Cfg.told (C : Cfg) (T : List Fact) : Cfg := { C with O := tabO T }
theorem codeOK_told {C : Cfg} {T : List Fact} : ∀ c, codeOK (C.told T) c = codeOK C c := by
  intro c
  induction c with
  | seq a b iha ihb => simp only [codeOK, iha, ihb]
  | cond c a b iha ihb => simp only [codeOK, iha, ihb]
  | block id a ih => simp only [codeOK, ih]
  | loop a ih => simp only [codeOK, ih]
  | region id ops d => rfl
  | _ => rfl
theorem told_ok {C : Cfg} {T : List Fact} (hC : CfgOK C) (hok : fnsOK C) (hT : ∀ a ∈ T, Fact.ok C a) : CfgOK (C.told T) ∧ fnsOK (C.told T) := by
  refine ⟨⟨hC.fn, ?_, hC.nz, hC.mixed⟩, fun f fn c h1 h2 h3 => by rw [codeOK_told]; exact hok f fn c h1 h2 h3⟩
  intro f xs r h F w argv hF hr
  obtain ⟨a, ha, rfl, rfl, rfl⟩ := tabO_some h
  exact WP_sound hC hok (hT a ha) hF hr
theorem facts_nil {C : Cfg} : ∀ a ∈ ([] : List Fact), Fact.ok C a := fun a h => by cases h
theorem facts_cons {C : Cfg} {a : Fact} {T : List Fact} (h : Fact.ok C a) (hT : ∀ b ∈ T, Fact.ok C b) : ∀ b ∈ a :: T, Fact.ok C b := fun b hb => by
  rcases List.mem_cons.1 hb with rfl | hb
  · exact h
  · exact hT b hb
def eqO : Option PV → PV → Bool
  | some x, y => eqPV x y
  | none, _ => false
theorem fact_run {C : Cfg} (k : Nat) {a : Fact} (h : eqO (evP C k a.f a.xs) a.r = true) : Fact.ok C a := by
  refine WP_run k ?_
  cases hx : evP C k a.f a.xs with
  | none => rw [hx] at h; cases h
  | some x => rw [hx] at h; rw [eqPV_eq h]

/-- A table of modes with bytealg.MakeNoZero in it. -/
theorem tabCfg_ok6 {P : Program} {L : List Nat} (n : Nat) (h : ((List.range L.length).all fun f => decide (9 ≤ L.getD f 9) || L.getD f 9 == 6 || fOK (tabCfg P L) f) = true)
    (mixed : P.follows .mixedOrders = true) (h6 : ((List.range L.length).all fun f => L.getD f 9 != 6 || f == n) = true)
    (nz : ∃ fn e t, P.funcs[n]? = some fn ∧ (fn.name == "runtime.NumGoroutine") = false ∧ fn.body = none ∧ (Extern.findNext fn).isNone = true ∧ Extern.find fn = some (Extern.BytealgMakeNoZero.makeNoZero fn.params fn.resultTypes) ∧ fn.resultTypes = #[t] ∧ P.underlying t = some (.slice e)) :
    CfgOK (tabCfg P L) ∧ fnsOK (tabCfg P L) := by
  refine tab_ok (n := L.length) (fun f hf => tab_lt hf) h ora_none mixed fun f hf => ?_
  have hf' : L.getD f 9 = 6 := hf
  have hl := tab_lt (L := L) (f := f) (by omega)
  have := List.all_eq_true.1 h6 f (List.mem_range.2 hl)
  rw [hf'] at this
  simp at this
  subst this
  exact nz
end Go.Ev
