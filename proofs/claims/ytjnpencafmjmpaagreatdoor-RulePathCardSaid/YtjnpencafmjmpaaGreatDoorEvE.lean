/- Each operation of the model does what the evaluator tells: slices, structs, memory. -/
import Derived.Test.YtjnpencafmjmpaaGreatDoorEvD
set_option linter.unusedVariables false
set_option linter.unusedSimpArgs false
namespace Go.Ev
open Go.RowKit
variable {P : Program} {g : G} {w : World} {H : List ABlk}

theorem addr_add (b o j : Nat) : (⟨b, o, none⟩ : Addr).add j = ⟨b, o + j, none⟩ := by unfold Addr.add; split <;> simp_all

/-! ### '==' -/
theorem evEq_run_d {d : Nat} {t : TypeId} {x y : AV} {a b : Value} {r : Bool} (hs : ∀ xs ys, ¬ (x = .p (.agg xs) ∧ y = .p (.agg ys))) (h : evEq P t x y = some r) (hx : repA g w H x a) (hy : repA g w H y b) : (Op.equalIn (d + 1) t a b).run P w = .ok r w := by
  unfold evEq at h
  split at h
  case h_1 hu => cases h; simp only [repA, rep] at hx hy; subst hx hy; simp [Op.equalIn, run_underlying hu]
  case h_2 hu => cases h; simp only [repA, rep] at hx hy; subst hx hy; simp [Op.equalIn, run_underlying hu]
  case h_3 hu => cases h; simp only [repA, rep] at hx hy; obtain ⟨A, rfl, _⟩ := hy; subst hx; simp [Op.equalIn, run_underlying hu]
  case h_4 hu => cases h; simp only [repA, rep] at hx hy; obtain ⟨A, rfl, _⟩ := hx; subst hy; simp [Op.equalIn, run_underlying hu]
  case h_5 hu => cases h; simp only [repA, rep] at hx hy; subst hx hy; simp [Op.equalIn, run_underlying hu]
  case h_6 hu => cases h; simp only [repA, rep] at hx hy; obtain ⟨_, _, rfl, _⟩ := hx; subst hy; simp [Op.equalIn, run_underlying hu]
  case h_7 hu => cases h; simp only [repA, rep] at hx hy; obtain ⟨_, _, rfl, _⟩ := hx; subst hy; simp [Op.equalIn, run_underlying hu]
  case h_8 hu =>
    cases h; simp only [repA, rep] at hx hy
    obtain ⟨A, cap, rfl, _, hA⟩ := hx
    obtain ⟨A', cap', rfl, _, hA'⟩ := hy
    cases A' with
    | some _ => simp at hA'
    | none => cases A with
      | none => simp at hA; subst hA; simp [Op.equalIn, run_underlying hu]
      | some _ => simp at hA; subst hA; simp [Op.equalIn, run_underlying hu]
  case h_9 hu =>
    split at h
    · cases h
    · rename_i hn
      cases h; simp only [repA, rep] at hx hy
      obtain ⟨A, cap, rfl, h1, _, h3, _⟩ := hx
      obtain ⟨A', cap', rfl, _, hA'⟩ := hy
      cases A' with
      | some _ => simp at hA'
      | none => cases A with
        | none => have := h3 rfl; omega
        | some _ => simp [Op.equalIn, run_underlying hu]
  case h_10 hu =>
    cases h; simp only [repA, rep] at hx hy
    obtain ⟨A, cap, rfl, _⟩ := hx
    obtain ⟨A', cap', rfl, _, hA'⟩ := hy
    cases A' with
    | some _ => simp at hA'
    | none => simp [Op.equalIn, run_underlying hu]
  case h_11 hu => exact absurd ⟨rfl, rfl⟩ (hs _ _)
  case h_12 => cases h
theorem eqField_run {d : Nat} {t : TypeId} {x y : Option PV} {F : Nat → Prop} {r : Bool} (h : eqField (P.underlying t) x y = some r) : ∃ x0 y0, x = some x0 ∧ y = some y0 ∧ aggT P t = some false ∧ ∀ a b, rep F w x0 a → rep F w y0 b → (Op.equalIn (d + 1) t a b).run P w = .ok r w := by
  unfold eqField at h
  split at h
  case h_1 hu =>
    refine ⟨_, _, rfl, rfl, by simp [aggT, hu], fun a b ha hb => ?_⟩
    simp only [rep] at ha hb; subst ha hb
    split at h
    · rename_i hk; subst hk; cases h; simp [Op.equalIn, run_underlying hu]
    · cases h
  case h_2 hu =>
    refine ⟨_, _, rfl, rfl, by simp [aggT, hu], fun a b ha hb => ?_⟩
    simp only [rep] at ha hb; subst ha hb
    cases h; simp [Op.equalIn, run_underlying hu]
  case h_3 hu =>
    refine ⟨_, _, rfl, rfl, by simp [aggT, hu], fun a b ha hb => ?_⟩
    simp only [rep] at ha hb; obtain ⟨s, rfl, rfl⟩ := ha; obtain ⟨u, rfl, rfl⟩ := hb
    cases h
    simp only [Op.equalIn, Sem.run_bind, run_underlying hu, Result.andThen_ok]
    show Result.ok (s == u) w = _
    rw [map_toNat_eq]
    have e : (s == u) = (s.data == u.data) := by cases s; cases u; rfl
    rw [e]
    congr 1
    rw [Bool.eq_iff_iff]
    simp
  case h_4 => cases h
theorem part_run {t : TypeId} {cs : List AV} {off : Nat} {x : AV} {vs : Array Value} (h : partA P t cs off = some x) (hr : repLA g w H cs vs.toList) : ∃ v, (part t vs off).run P w = .ok v w ∧ repA g w H x v := by
  unfold partA at h
  split at h
  case h_1 n h1 h2 =>
    split at h
    · rename_i hle
      cases h
      refine ⟨.agg (vs.extract off (off + n)), ?_, ?_⟩
      · simp [part, aggT_run h1, sizeT_run h2]
      · have := mkAgg_rep (repLA_take n (repLA_drop off hr))
        have e : (((vs.toList.drop off).take n).toArray : Array Value) = vs.extract off (off + n) := by
          apply Array.ext'
          simp [List.extract_eq_take_drop]
        rwa [e] at this
    · cases h
  case h_2 n h1 h2 =>
    obtain ⟨hl, hi⟩ := repLA_iff.1 hr
    obtain ⟨v, hv, hx⟩ := hi off x h
    refine ⟨v, ?_, hx⟩
    have : vs[off]? = some v := by rw [← Array.getElem?_toList]; exact hv
    simp [part, aggT_run h1, this]
  case h_3 => cases h
theorem part_cell {t : TypeId} {vs : Array Value} {off : Nat} {v : Value} (h1 : aggT P t = some false) (h : vs[off]? = some v) : (part t vs off).run P w = .ok v w := by
  simp [part, aggT_run h1, h]
theorem fields_run {F : Nat → Prop} {n : Nat} (hn : ∃ d, n = d + 1) {xs ys : List PV} {a b : Array Value} (ha : repL F w xs a.toList) (hb : repL F w ys b.toList) : ∀ (fs : List Field) (r : Bool), eqFields P xs ys fs = some r →
    (forIn fs ((none : Option Bool), ()) fun f __s => if f.name ≠ "_" then do
        let x ← part f.type a f.offset
        let y ← part f.type b f.offset
        let e ← Op.equalIn n f.type x y
        if (!e) = true then pure (ForInStep.done (some false, ())) else pure (ForInStep.yield (none, ()))
      else pure (ForInStep.yield (none, ())) : Sem (Option Bool × Unit)).run P w = .ok (if r then none else some false, ()) w
  | [], r, h => by simp [eqFields] at h; subst h; simp
  | f :: fs, r, h => by
    simp only [eqFields] at h
    rw [List.forIn_cons]
    simp only [Sem.run_bind]
    by_cases hnm : f.name = "_"
    · rw [if_pos hnm] at h
      rw [if_neg (by simpa using hnm)]
      simp only [Sem.run_pure, Result.andThen_ok]
      exact fields_run hn ha hb fs r h
    · rw [if_neg hnm] at h
      rw [if_pos (by simpa using hnm)]
      obtain ⟨d, rfl⟩ := hn
      cases he : eqField (P.underlying f.type) xs[f.offset]? ys[f.offset]? with
      | none => rw [he] at h; cases h
      | some q =>
        rw [he] at h
        obtain ⟨x0, y0, hx0, hy0, hag, hq⟩ := eqField_run (P := P) (w := w) (F := F) (d := d) he
        obtain ⟨v, hv, hvr⟩ := (repL_iff.1 ha).2 _ _ hx0
        obtain ⟨u, hu, hur⟩ := (repL_iff.1 hb).2 _ _ hy0
        rw [Array.getElem?_toList] at hv hu
        simp only [Sem.run_bind, part_cell hag hv, part_cell hag hu, Result.andThen_ok, hq v u hvr hur]
        cases q with
        | true => simp only at h; simp only [Bool.not_true, Bool.false_eq_true, if_false, Sem.run_pure, Result.andThen_ok]; exact fields_run ⟨d, rfl⟩ ha hb fs r h
        | false => simp only at h; cases h; simp
theorem eqStruct_run {n : Nat} {t : TypeId} {fs : Array Field} {xs ys : List PV} {a b : Value} {r : Bool} {F : Nat → Prop} (hu : P.underlying t = some (.struct fs)) (h1 : P.stoodInHeld t = false) (h : eqFields P xs ys fs.toList = some r)
    (ha : rep F w (.agg xs) a) (hb : rep F w (.agg ys) b) : (Op.equalIn (n + 2) t a b).run P w = .ok r w := by
  simp only [rep] at ha hb
  obtain ⟨vs, rfl, ha⟩ := ha
  obtain ⟨us, rfl, hb⟩ := hb
  obtain ⟨m, hm⟩ : ∃ m, m = n + 1 := ⟨_, rfl⟩
  rw [show n + 2 = m + 1 by omega]
  simp only [Op.equalIn, Sem.run_bind, run_underlying hu, Result.andThen_ok, run_program, h1]
  simp only [Bool.false_eq_true, if_false, ← Array.forIn_toList, Sem.run_bind]
  rw [fields_run ⟨n, hm⟩ ha hb _ r h]
  cases r <;> simp
theorem equal_two (t : TypeId) (x y : Value) : ∃ n, Op.equal t x y = Op.equalIn (n + 2) t x y := ⟨9998, rfl⟩
theorem evEq_run {t : TypeId} {x y : AV} {a b : Value} {r : Bool} (h : evEq P t x y = some r) (hx : repA g w H x a) (hy : repA g w H y b) : (Op.equal t a b).run P w = .ok r w := by
  obtain ⟨n, hn⟩ := equal_two t a b
  rw [hn]
  by_cases hs : ∀ xs ys, ¬ (x = .p (.agg xs) ∧ y = .p (.agg ys))
  · exact evEq_run_d hs h hx hy
  · simp only [Classical.not_forall, Classical.not_not] at hs
    obtain ⟨xs, ys, rfl, rfl⟩ := hs
    unfold evEq at h
    split at h <;> first | (cases h; done) | skip
    all_goals (rename_i e1 e2; first | (simp at e1; done) | skip)
    rename_i fs xs' ys' hu
    cases e1; cases e2
    split at h
    · rename_i hc
      exact eqStruct_run hu hc.1 h hx hy
    · cases h
end Go.Ev
