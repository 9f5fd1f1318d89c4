/- Each operation of the model does what the evaluator tells. -/
import Derived.Test.YtjnpencafmjmpaaGreatDoorEvC
import Derived.Laws.Entries
import Derived.Laws.Cells
import Derived.Lib.ConvBytes
import Derived.Lib.Strings
set_option linter.unusedVariables false
set_option linter.unusedSimpArgs false
namespace Go.Ev
open Go.RowKit
variable {P : Program}

/-! ### Shapes -/
theorem ofVal1_rep {F : Nat → Prop} {w : World} {v : Value} {x : PV} (h : ofVal1 v = some x) : rep F w x v ∧ (AV.p x).isCell = true := by
  unfold ofVal1 at h
  split at h <;> first | (simp at h; done) | (simp at h; subst h)
  · exact ⟨by simp [rep], rfl⟩
  · exact ⟨by simp [rep], rfl⟩
  · exact ⟨by simp only [rep]; exact ⟨_, rfl, rfl⟩, rfl⟩
  · exact ⟨by simp [rep], rfl⟩
  · exact ⟨by simp only [rep]; exact ⟨none, 0, rfl, fun _ => rfl, rfl⟩, rfl⟩
  · exact ⟨by simp [rep], rfl⟩
theorem mapO_ofVal1 {F : Nat → Prop} {w : World} : ∀ {vs : List Value} {xs : List PV}, mapO ofVal1 vs = some xs → repL F w xs vs
  | [], xs, h => by simp [mapO] at h; subst h; simp [repL]
  | v :: vs, xs, h => by
    simp only [mapO] at h
    cases hv : ofVal1 v with
    | none => rw [hv] at h; simp at h
    | some y =>
      rw [hv] at h
      cases hs : mapO ofVal1 vs with
      | none => rw [hs] at h; simp at h
      | some ys =>
        rw [hs] at h; simp at h; subst h
        exact ⟨(ofVal1_rep hv).1, mapO_ofVal1 hs⟩
theorem ofVal_rep {F : Nat → Prop} {w : World} {v : Value} {x : PV} (h : ofVal v = some x) : rep F w x v := by
  unfold ofVal at h
  split at h
  · rename_i cs
    cases hs : mapO ofVal1 cs.toList with
    | none => rw [hs] at h; simp at h
    | some xs => rw [hs] at h; simp at h; subst h; simp only [rep]; exact ⟨cs, rfl, mapO_ofVal1 hs⟩
  · rename_i vs
    split at h
    · rename_i hz
      simp at h; subst h
      have : vs = #[] := Array.eq_empty_of_size_eq_zero hz
      subst this
      simp [rep, undef]
    · simp at h
  · exact (ofVal1_rep h).1
theorem opv_rep {g : G} {w : World} {H : List ABlk} {t : List AV} {a : Act} (ht : repLA g w H t a.tmps.toList) {o : Operand} {x : AV} (h : opv t o = some x) : repA g w H x (a.eval o) := by
  cases o with
  | tmp i =>
    simp only [opv] at h
    obtain ⟨hl, hi⟩ := repLA_iff.1 ht
    cases hx : t[i]? with
    | some y =>
      rw [hx] at h; simp at h; subst h
      obtain ⟨v, hv, hr⟩ := hi i y hx
      have : a.tmps[i]? = some v := by rw [← Array.getElem?_toList]; exact hv
      simp only [Act.eval, Array.getD_eq_getD_getElem?, this, Option.getD_some]; exact hr
    | none =>
      rw [hx] at h; simp at h; subst h
      have h1 : t.length ≤ i := by simpa using hx
      have : a.tmps[i]? = none := by simp; simp at hl; omega
      simp only [Act.eval, Array.getD_eq_getD_getElem?, this, Option.getD_none, repA, rep]
  | const v =>
    simp only [opv] at h
    cases hv : ofVal v with
    | none => rw [hv] at h; simp at h
    | some y => rw [hv] at h; simp at h; subst h; exact ofVal_rep hv
  | global k => simp [opv] at h
  | func f => simp [opv] at h; subst h; simp only [repA, rep, Act.eval]; exact ⟨#[], #[], rfl, by simp [repL], by simp [repL]⟩

theorem isCell_one {g : G} {w : World} {H : List ABlk} {x : AV} {v : Value} (h : repA g w H x v) (hc : x.isCell = true) : v.oneCell' = true := by
  cases x with
  | p x =>
    simp only [repA] at h
    cases x <;> simp [AV.isCell] at hc <;> simp only [rep] at h
    · subst h; rfl
    · subst h; rfl
    · obtain ⟨s, rfl, _⟩ := h; rfl
    · subst h; rfl
    · subst h; rfl
    · obtain ⟨_, rfl⟩ := h; rfl
    · obtain ⟨_, _, rfl, _⟩ := h; rfl
    · obtain ⟨_, _, rfl, _⟩ := h; rfl
    · obtain ⟨_, _, rfl, _⟩ := h; rfl
  | ms => simp only [repA] at h; obtain ⟨_, _, rfl, _⟩ := h; rfl
  | pt => simp only [repA] at h; obtain ⟨_, rfl, _⟩ := h; rfl
  | ip => simp only [repA] at h; obtain ⟨_, _, rfl, _⟩ := h; rfl
  | fn => simp only [repA] at h; obtain ⟨_, _, rfl, _⟩ := h; rfl
  | agg => simp [AV.isCell] at hc
  | tup => simp [AV.isCell] at hc
theorem cells_one {v : Value} (h : v.oneCell' = true) : v.cells = #[v] := by cases v <;> simp [Value.oneCell'] at h <;> rfl
theorem all_one {g : G} {w : World} {H : List ABlk} {cs : List AV} {vs : List Value} (h : repLA g w H cs vs) (hc : cs.all AV.isCell = true) : ∀ v ∈ vs, v.oneCell' = true := by
  obtain ⟨hl, hi⟩ := repLA_iff.1 h
  intro v hv
  obtain ⟨i, hi'⟩ := List.getElem?_of_mem hv
  have hlt := lt_of_get hi'
  obtain ⟨u, hu, hr⟩ := hi i cs[i] (List.getElem?_eq_getElem (by omega))
  rw [hi'] at hu; cases hu
  exact isCell_one hr (List.all_eq_true.1 hc _ (List.getElem_mem _))
theorem cellsOf_rep {g : G} {w : World} {H : List ABlk} {x : AV} {v : Value} {cs : List AV} (h : repA g w H x v) (hc : cellsOf x = some cs) : repLA g w H cs v.cells.toList ∧ cs.all AV.isCell = true := by
  have one : x.isCell = true → cs = [x] → repLA g w H cs v.cells.toList ∧ cs.all AV.isCell = true := by
    intro h1 h2
    subst h2
    rw [cells_one (isCell_one h h1)]
    exact ⟨by simp [repLA, h], by simp [h1]⟩
  unfold cellsOf at hc
  split at hc
  · rename_i xs
    split at hc
    · rename_i hall
      simp at hc; subst hc
      simp only [repA, rep] at h
      obtain ⟨vs, rfl, hr⟩ := h
      exact ⟨repLA_map.2 hr, hall⟩
    · simp at hc
  · rename_i xs
    split at hc
    · rename_i hall
      simp at hc; subst hc
      simp only [repA] at h
      obtain ⟨vs, rfl, hr⟩ := h
      exact ⟨hr, hall⟩
    · simp at hc
  · split at hc
    · rename_i h1; simp at hc; exact one h1 hc.symm
    · simp at hc
theorem mkAgg_rep {g : G} {w : World} {H : List ABlk} {cs : List AV} {vs : List Value} (h : repLA g w H cs vs) : repA g w H (mkAgg cs) (.agg vs.toArray) := by
  unfold mkAgg
  split
  · rename_i xs hx
    rw [mapO_pure hx] at h
    simp only [repA, rep]
    exact ⟨_, rfl, by simpa using repLA_map.1 h⟩
  · simp only [repA]; exact ⟨_, rfl, by simpa using h⟩
theorem mkTup_rep {g : G} {w : World} {H : List ABlk} {cs : List AV} {vs : List Value} (h : repLA g w H cs vs) : repA g w H (mkTup cs) (.tuple vs.toArray) := by
  unfold mkTup
  split
  · rename_i xs hx
    rw [mapO_pure hx] at h
    simp only [repA, rep]
    exact ⟨_, rfl, by simpa using repLA_map.1 h⟩
  · simp only [repA]; exact ⟨_, rfl, by simpa using h⟩
theorem aggCells_rep {g : G} {w : World} {H : List ABlk} {x : AV} {v : Value} {cs : List AV} (h : repA g w H x v) (hc : aggCells x = some cs) : ∃ vs, v = .agg vs ∧ repLA g w H cs vs.toList := by
  unfold aggCells at hc
  split at hc
  · simp at hc; subst hc; simp only [repA, rep] at h; obtain ⟨vs, rfl, hr⟩ := h; exact ⟨vs, rfl, repLA_map.2 hr⟩
  · simp at hc; subst hc; simp only [repA] at h; exact h
  · simp at hc

/-! ### Types -/
theorem sizeT_run {t : TypeId} {n : Nat} (h : sizeT P t = some n) (w : World) : (sizeOf t).run P w = .ok n w := by
  unfold sizeT at h
  cases hi : P.info? t with
  | none => rw [hi] at h; simp at h
  | some i => rw [hi] at h; simp at h; subst h; simp [sizeOf, typeInfo, hi]
theorem bytesT_run {t : TypeId} {n : Nat} (h : bytesT P t = some n) (w : World) : ∃ i, (typeInfo t).run P w = .ok i w ∧ i.bytes = n := by
  unfold bytesT at h
  cases hi : P.info? t with
  | none => rw [hi] at h; simp at h
  | some i => rw [hi] at h; simp at h; exact ⟨i, by simp [typeInfo, hi], h⟩
theorem aggT_run {t : TypeId} {b : Bool} (h : aggT P t = some b) (w : World) : (isAgg t).run P w = .ok b w := by
  unfold aggT at h
  unfold isAgg
  simp only [Sem.run_bind]
  split at h <;> rename_i hu <;> first | (simp at h; done) | (simp at h; subst h; rw [run_underlying hu])
  · rfl
  · rfl
  · rename_i d h1 h2
    cases d <;> first | rfl | exact absurd rfl (h1 _) | exact absurd rfl (h2 _ _)
theorem zeroT_run {t : TypeId} {cs : List AV} (h : zeroT P t = some cs) (g : G) (w : World) (H : List ABlk) : ∃ z, (zeroValue t).run P w = .ok z w ∧ repLA g w H cs z.cells.toList ∧ cs.all AV.isCell = true := by
  unfold zeroT at h
  cases hi : P.info? t with
  | none => rw [hi] at h; simp at h
  | some i =>
    rw [hi] at h
    simp only [Option.bind_some] at h
    cases hz : i.zero with
    | none => rw [hz] at h; simp at h
    | some z =>
      rw [hz] at h
      simp only at h
      cases hx : ofVal z with
      | none => rw [hx] at h; simp at h
      | some x =>
        rw [hx] at h
        simp only at h
        have hr : repA g w H (.p x) z := by simp only [repA]; exact ofVal_rep hx
        obtain ⟨h1, h2⟩ := cellsOf_rep hr h
        exact ⟨z, by simp [zeroValue, typeInfo, hi, hz], h1, h2⟩
theorem elemT_run {t e : TypeId} (h : elemT P t = some e) (w : World) : (underlying t).run P w = .ok (.slice e) w := by
  unfold elemT at h
  split at h
  · rename_i hu; simp at h; subst h; exact run_underlying hu w
  · simp at h

/-! ### Numbers, strings -/
theorem ibin_run {op : BinOp} {k : IntKind} {a b : Int} {x : PV} (h : ibin op k a b = some x) (t : TypeId) (F : Nat → Prop) (w : World) :
    ∃ v, (binOp op t (.int k a) (.int k b)).run P w = .ok v w ∧ rep F w x v := by
  cases op <;> simp only [ibin, ibits] at h <;> first
    | (simp at h; done)
    | (simp at h; subst h; refine ⟨_, ?_, by simp only [rep]; rfl⟩; simp [binOp, Op.intArith, Op.intBits, Op.intCmp]; done)
    | (split at h
       · simp at h
       · rename_i hb; simp at h; subst h; refine ⟨_, ?_, by simp only [rep]; rfl⟩; simp [binOp, Op.intDiv, hb])
theorem ishift_run {op : BinOp} {k k' : IntKind} {a b : Int} {x : PV} (hop : op = .shl ∨ op = .shr) (h : ishift op k a b = some x) (t : TypeId) (F : Nat → Prop) (w : World) :
    ∃ v, (binOp op t (.int k a) (.int k' b)).run P w = .ok v w ∧ rep F w x v := by
  unfold ishift at h
  split at h
  · simp at h
  · rename_i hb
    rcases hop with rfl | rfl <;> simp at h <;> subst h <;> refine ⟨_, ?_, by simp only [rep]; rfl⟩ <;> simp [binOp, Op.shift, hb]
theorem less_eq : ∀ (a b : List UInt8), less (a.map UInt8.toNat) (b.map UInt8.toNat) = Op.bytesLess a b
  | _, [] => by cases ‹List UInt8› <;> simp [less, Op.bytesLess]
  | [], _ :: _ => by simp [less, Op.bytesLess]
  | a :: x, b :: y => by
    simp only [List.map_cons, less, Op.bytesLess, less_eq x y]
    have h1 : decide (a.toNat < b.toNat) = decide (a < b) := by simp [UInt8.lt_iff_toNat_lt]
    have h2 : (a.toNat == b.toNat) = (a == b) := by
      rw [Bool.eq_iff_iff]; simp [UInt8.toNat_inj]
    rw [h1, h2]
theorem map_toNat_eq (a b : List UInt8) : (a.map UInt8.toNat == b.map UInt8.toNat) = (a == b) := by
  rw [Bool.eq_iff_iff]
  simp only [beq_iff_eq]
  constructor
  · intro h
    exact (List.map_inj_right (fun x y => UInt8.toNat_inj.1)).1 h
  · rintro rfl; rfl
theorem sbin_run {op : BinOp} {a b : List Nat} {x : PV} (h : sbin op a b = some x) (t : TypeId) {s u : ByteArray} (hs : s.data.toList.map UInt8.toNat = a) (hu : u.data.toList.map UInt8.toNat = b) (F : Nat → Prop) (w : World) :
    ∃ v, (binOp op t (.string s) (.string u)).run P w = .ok v w ∧ rep F w x v := by
  subst hs hu
  have hb : ∀ op, binOp op t (.string s) (.string u) = Op.stringOp op s u := by intro op; cases op <;> rfl
  rw [hb]
  cases op
  case add =>
    simp only [sbin] at h
    split at h
    · cases h
    · rename_i hn
      cases h
      refine ⟨.string (s ++ u), ?_, by simp only [rep]; exact ⟨_, rfl, by simp⟩⟩
      have hn' : ¬ ((s.size + u.size : Nat) : Int) > IntKind.i64.max := by
        have e1 : (List.map UInt8.toNat s.data.toList).length = s.size := by rw [List.length_map, Array.length_toList]; rfl
        have e2 : (List.map UInt8.toNat u.data.toList).length = u.size := by rw [List.length_map, Array.length_toList]; rfl
        rw [e1, e2] at hn
        exact hn
      simp only [Op.stringOp]
      rw [if_neg hn']
      rfl
  all_goals
    simp only [sbin, less_eq, map_toNat_eq] at h
    first
      | (simp at h; done)
      | (simp at h; subst h; refine ⟨_, ?_, by simp only [rep]; rfl⟩; simp [Op.stringOp, Lib.toList_data]; done)
end Go.Ev
