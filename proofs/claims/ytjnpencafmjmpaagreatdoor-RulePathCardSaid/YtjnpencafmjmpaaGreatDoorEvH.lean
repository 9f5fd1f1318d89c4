/- Each operation of the model does what the evaluator tells: build, make, addresses, len, copy, append, conversions. -/
import Derived.Test.YtjnpencafmjmpaaGreatDoorEvG
import Derived.Laws.BytesString
set_option linter.unusedVariables false
set_option linter.unusedSimpArgs false
namespace Go.Ev
open Go.RowKit
variable {P : Program} {g : G} {w : World} {H : List ABlk}

/-! ### Structs, arrays, slices that are written out -/
def repPs (g : G) (w : World) (H : List ABlk) : List (Nat × AV) → List (Nat × Value) → Prop
  | [], [] => True
  | (i, x) :: xs, (j, v) :: vs => i = j ∧ repA g w H x v ∧ repPs g w H xs vs
  | _, _ => False
theorem foldl_set (cs : List Value) : ∀ (cells : Array Value) (off j0 : Nat), ((cs.zipIdx j0).foldl (fun (a : Array Value) (q : Value × Nat) => a.setIfInBounds (off + q.2) q.1) cells) = (setV cells.toList (off + j0) cs).toArray := by
  induction cs with
  | nil => intro cells off j0; simp [setV]
  | cons c cs ih =>
    intro cells off j0
    simp only [List.zipIdx_cons, List.foldl_cons, setV]
    rw [ih]
    simp only [Array.toList_setIfInBounds]
    rw [show off + (j0 + 1) = off + j0 + 1 by omega]
theorem afill_run {place : Nat → Option (Nat × Nat)} : ∀ {ps : List (Nat × AV)} {qs : List (Nat × Value)} {cells : List AV} {vs : Array Value} {out : List AV}, afill place cells ps = some out → repPs g w H ps qs → repLA g w H cells vs.toList → cells.all AV.isCell = true →
    ∃ us : Array Value, Instr.fill place vs qs = some us ∧ repLA g w H out us.toList ∧ out.all AV.isCell = true ∧ out.length = cells.length
  | [], [], cells, vs, out, h, _, hr, hc => by simp only [afill] at h; cases h; exact ⟨vs, rfl, hr, hc, rfl⟩
  | (i, x) :: ps, (j, v) :: qs, cells, vs, out, h, hp, hr, hc => by
    simp only [repPs] at hp
    obtain ⟨rfl, hx, hp⟩ := hp
    simp only [afill] at h
    cases hpl : place i with
    | none => rw [hpl] at h; cases h
    | some q =>
      obtain ⟨off, size⟩ := q
      rw [hpl] at h
      simp only at h
      cases hcs : cellsOf x with
      | none => rw [hcs] at h; cases h
      | some cs =>
        rw [hcs] at h
        simp only at h
        split at h
        · cases h
        · rename_i hn
          obtain ⟨h1, h2⟩ := cellsOf_rep hx hcs
          have hl := repLA_size h1
          have hl2 := repLA_size hr
          obtain ⟨us, k1, k2, k3, k4⟩ := afill_run (vs := (setV vs.toList off v.cells.toList).toArray) h hp (by simpa using repLA_setAt h1 hr) (setAt_all _ _ _ h2 hc)
          refine ⟨us, ?_, k2, k3, by rw [k4, setAt_length]⟩
          simp only [Instr.fill, hpl]
          have hz : (v.cells.zipIdx.foldl (fun (a : Array Value) (q : Value × Nat) => a.setIfInBounds (off + q.2) q.1) vs) = (setV vs.toList off v.cells.toList).toArray := by
            rw [← Array.foldl_toList, Array.toList_zipIdx, foldl_set]
            simp
          have hc1 : ¬ ((v.cells.size ≠ size || decide (off + v.cells.size > vs.size)) = true) := by
            simp only [Bool.or_eq_true, decide_eq_true_eq]
            omega
          rw [if_neg hc1, ← k1]
          congr 1
  | [], _ :: _, _, _, _, _, hp, _, _ => by simp [repPs] at hp
  | _ :: _, [], _, _, _, _, hp, _, _ => by simp [repPs] at hp
theorem parts_rep {ρ : Env} {e : Operand → Value} (hρ : ∀ o x, ρ o = some x → repA g w H x (e o)) {ps : Array (Nat × Operand)} {qs : List (Nat × AV)} (h : parts ρ ps = some qs) : repPs g w H qs (ps.map fun (i, x) => (i, e x)).toList := by
  unfold parts at h
  rw [Array.toList_map]
  generalize ps.toList = l at h
  induction l generalizing qs with
  | nil => simp [mapO] at h; subst h; simp [repPs]
  | cons q l ih =>
    obtain ⟨i, o⟩ := q
    simp only [mapO] at h
    cases ho : ρ o with
    | none => rw [ho] at h; cases h
    | some x =>
      rw [ho] at h
      simp only at h
      split at h
      · cases h
      · rename_i ys hys
        cases h
        simp only [List.map_cons, repPs]
        exact ⟨trivial, hρ o x ho, ih hys⟩
theorem places_run {fs : List Field} {places : List (Nat × Nat)} (h : mapO (fun f : Field => (sizeT P f.type).map fun s => (f.offset, s)) fs = some places) :
    (fs.mapM fun f => (do pure (f.offset, ← sizeOf f.type) : Sem (Nat × Nat))).run P w = .ok places w := by
  induction fs generalizing places with
  | nil => simp [mapO] at h; subst h; simp
  | cons f fs ih =>
    simp only [mapO] at h
    cases hs : sizeT P f.type with
    | none => rw [hs] at h; simp at h
    | some s =>
      rw [hs] at h
      simp only [Option.map_some] at h
      split at h
      · cases h
      · rename_i ys hys
        cases h
        simp only [List.mapM_cons, Sem.run_bind, sizeT_run hs, Result.andThen_ok, Sem.run_pure, ih hys]
theorem evBuild_run {t : TypeId} {ps : List (Nat × AV)} {qs : Array (Nat × Value)} {z : AV} (h : evBuild P t ps = some z) (hp : repPs g w H ps qs.toList) : ∃ v, (Instr.build t qs).run P w = .ok v w ∧ repA g w H z v := by
  unfold evBuild at h
  split at h
  case h_1 zs fs h1 h2 =>
    obtain ⟨zv, hz, hzr, hzc⟩ := zeroT_run h1 g w H
    split at h
    · cases h
    · rename_i places hpl
      split at h
      · rename_i cs hf
        cases h
        obtain ⟨us, k1, k2, k3, k4⟩ := afill_run hf hp hzr hzc
        have hpr : (fs.mapM fun f => (do pure (f.offset, ← sizeOf f.type) : Sem (Nat × Nat))).run P w = .ok places.toArray w := by
          rw [Array.mapM_eq_mapM_toList]
          simp only [Sem.run_map, places_run hpl, Result.andThen_ok]
        refine ⟨.agg us, ?_, by simpa using mkAgg_rep k2⟩
        simp only [Instr.build, Sem.run_bind, hz, Result.andThen_ok, run_underlying h2, hpr]
        have : (fun x => places.toArray[x]?) = fun (i : Nat) => places[i]? := by funext i; simp
        rw [this, k1]
        rfl
      · cases h
  case h_2 zs n e h1 h2 =>
    obtain ⟨zv, hz, hzr, hzc⟩ := zeroT_run h1 g w H
    split at h
    · cases h
    · rename_i s hs
      split at h
      · rename_i cs hf
        cases h
        obtain ⟨us, k1, k2, k3, k4⟩ := afill_run hf hp hzr hzc
        refine ⟨.agg us, ?_, by simpa using mkAgg_rep k2⟩
        simp only [Instr.build, Sem.run_bind, hz, Result.andThen_ok, run_underlying h2, sizeT_run hs, k1, Sem.run_pure]
      · cases h
  case h_3 => cases h
theorem flat_get {α : Type} (z : List α) (n i : Nat) : (List.replicate n z).flatten[i]? = if i < n * z.length then z[i % z.length]? else none := by
  induction n generalizing i with
  | zero => simp
  | succ n ih =>
    rw [List.replicate_succ, List.flatten_cons]
    by_cases h : i < z.length
    · rw [List.getElem?_append_left h, Nat.mod_eq_of_lt h, if_pos (by rw [Nat.add_mul]; omega)]
    · have hi : i - z.length < n * z.length ↔ i < (n + 1) * z.length := by rw [Nat.add_mul]; omega
      rw [List.getElem?_append_right (by omega), ih]
      by_cases h2 : i - z.length < n * z.length
      · rw [if_pos h2, if_pos (hi.1 h2)]
        congr 1
        rw [show i = (i - z.length) + z.length by omega, Nat.add_mod_right]
        congr 1; omega
      · rw [if_neg h2, if_neg (fun h => h2 (hi.2 h))]
theorem zeros_rep {z : List AV} {zv : Array Value} {n m : Nat} (hr : repLA g w H z zv.toList) (hm : m = n * z.length) : repLA g w H (List.replicate n z).flatten ((Array.range m).map (fun i => zv[i % zv.size]!)).toList := by
  have hl := repLA_size hr
  rw [repLA_iff]
  refine ⟨by simp [hm, List.length_flatten], fun i x hx => ?_⟩
  rw [flat_get] at hx
  split at hx
  · rename_i hi
    obtain ⟨v, hv, hx⟩ := (repLA_iff.1 hr).2 _ _ hx
    refine ⟨v, ?_, hx⟩
    rw [Array.getElem?_toList] at hv
    rw [Array.getElem?_toList, Array.getElem?_map, Array.getElem?_range]
    rw [← hm] at hi
    simp only [hi, if_true, Option.map_some]
    rw [hl] at hv
    rw [getElem!_def, hv]
  · cases hx
theorem zeros_all {z : List AV} (h : z.all AV.isCell = true) (n : Nat) : (List.replicate n z).flatten.all AV.isCell = true := by
  rw [List.all_eq_true] at h ⊢
  intro x hx
  rw [List.mem_flatten] at hx
  obtain ⟨l, hl, hx⟩ := hx
  rw [List.mem_replicate] at hl
  rw [hl.2] at hx
  exact h x hx
theorem range0 : Array.range 0 = #[] := by simp [Array.range]
/-- A row of cells as a slice that nothing changes: a new block that is marked at once. -/
theorem newFrozen {e : TypeId} {c : Array Value} {fr : Nat × Nat} {xs : List PV} (hi : Inv g w H) (hl : xs.length ≤ c.size) (hr : repLA g w H (xs.map .p) (c.toList.take xs.length)) :
    ∃ g', Inv g' (pushB w (.cells c e fr)) H ∧ Ext g w H g' (pushB w (.cells c e fr)) H ∧ g'.F w.heap.size ∧ repF g'.F (pushB w (.cells c e fr)) w.heap.size 0 xs := by
  have hlt : ∀ (id : Nat) (B : ABlk), H[id]? = some B → g.φ id < w.heap.size := fun id B hB => by
    obtain ⟨c, e, fr, h1, _⟩ := hi.blk id B hB
    exact lt_of_aget h1
  have hx : Ext g w H ⟨fun b => g.F b ∨ b = w.heap.size, g.φ⟩ (pushB w (.cells c e fr)) H := by
    refine ⟨fun b h => .inl h, fun b h => ?_, fun id B hB => ⟨B, hB, Nat.le_refl _, fun _ => ⟨rfl, fun c2 e2 fr2 hc2 => ⟨c2, fr2, ?_, rfl⟩⟩⟩, fun b h1 h2 h3 => ?_, by rw [pushB_size]; omega, rfl, rfl, rfl, fun b h => ?_, fun b h => .inl h⟩
    · have := hi.F b h; rw [pushB_get, if_neg (by omega)]
    · have := lt_of_aget hc2; rw [pushB_get, if_neg (by omega)]; exact hc2
    · rw [pushB_get, if_neg (by omega)]
    · rcases h with h | h
      · exact .inl h
      · exact .inr (.inl (by omega))
  refine ⟨⟨fun b => g.F b ∨ b = w.heap.size, g.φ⟩, ⟨fun b h => ?_, fun id B hB => ?_, hi.inj⟩, hx, .inr rfl, ?_⟩
  · rw [pushB_size]
    rcases h with h | h
    · have := hi.F b h; omega
    · omega
  · obtain ⟨c0, e0, fr0, h1, h2, h3, h4, h5, h6⟩ := hi.blk id B hB
    have := lt_of_aget h1
    refine ⟨c0, e0, fr0, by (show (pushB w (.cells c e fr)).heap[g.φ id]? = _); rw [pushB_get, if_neg (by omega)]; exact h1, h2, h3, repLA_mono hx h4, h5, fun h => .inl (h6.1 h), fun h => ?_⟩
    rcases h with h | h
    · exact h6.2 h
    · simp only at h; omega
  · rw [repF_iff]
    intro i x hix
    obtain ⟨v, hv, hr2⟩ := (repLA_iff.1 (repLA_mono hx hr)).2 i (.p x) (by simp [hix])
    refine ⟨v, ?_, hr2⟩
    rw [List.getElem?_take] at hv
    split at hv
    · simp only [World.cell?, pushB_get, if_true]
      simpa using hv
    · cases hv
theorem evBuildSlice_run {st : Bool} {t : TypeId} {len : Nat} {ps : List (Nat × AV)} {qs : Array (Nat × Value)} {z : AV} {H' : List ABlk} (hi : Inv g w H) (h : evBuildSlice P st t len ps H = some (z, H')) (hp : repPs g w H ps qs.toList) :
    ∃ v w' g', (Instr.buildSlice t len qs).run P w = .ok v w' ∧ Inv g' w' H' ∧ Ext g w H g' w' H' ∧ repA g' w' H' z v := by
  unfold evBuildSlice at h
  split at h
  · cases h
  · rename_i e he
    split at h
    case h_2 => cases h
    case h_1 size zs h1 h2 =>
    split at h
    · cases h
    · rename_i hc
      obtain ⟨zv, hz, hzr, hzc⟩ := zeroT_run h2 g w H
      have hzl := repLA_size hzr
      have hsz : size ≠ 0 ∧ zs.length = size ∧ len * size ≤ 16777216 := by omega
      split at h
      · cases h
      · rename_i cs hf
        obtain ⟨us, k1, k2, k3, k4⟩ := afill_run hf hp (zeros_rep (n := len) (m := len * size) hzr (by rw [hsz.2.1])) (zeros_all hzc _)
        have hul := repLA_size k2
        have hlen : cs.length = len * size := by rw [k4]; simp [List.length_flatten, hsz.2.1]
        have hrun : (Instr.buildSlice t len qs).run P w = .ok (.slice (some ⟨w.heap.size, 0, none⟩) len len) (pushB w (.cells us e)) := by
          simp only [Instr.buildSlice, Sem.run_bind, elemT_run he, Result.andThen_ok, sizeT_run h1]
          rw [if_neg (by omega)]
          by_cases hk : len * size = 0
          · rw [hk, range0] at k1
            simp only [List.map_toArray, List.map_nil] at k1
            simp [hk, range0, k1, newRow, pushB]
          · simp [hk, hz, k1, newRow, pushB]
        split at h
        · rename_i xs hxs
          cases h
          have hpe := mapO_pure hxs
          subst hpe
          obtain ⟨g', i1, i2, i3, i4⟩ := newFrozen (e := e) (c := us) (xs := xs) hi (by simp at hul; omega) (by have := repLA_whole k2; simpa using this)
          refine ⟨_, _, g', hrun, i1, i2, ?_⟩
          simp only [repA, rep]
          exact ⟨_, _, rfl, Nat.le_refl _, fun _ => rfl, by simp, .inr ⟨_, _, rfl, i3, i4⟩⟩
        · split at h
          · cases h
          · cases h
            obtain ⟨i0, i1, i2⟩ := newRow_run (P := P) (e := e) (c := us) (cs := cs) hi (by omega) (repLA_whole k2) k3
            refine ⟨_, _, _, hrun, i1, i2, ?_⟩
            simp only [repA]
            refine ⟨_, _, rfl, Nat.le_refl _, _, by simp; rfl, by simp, fun _ => ⟨.inr (by simp [gNew]), us, e, (0, 0), by simp [gNew, pushB_get], by omega⟩⟩
theorem evMakeSlice_run {st : Bool} {t : TypeId} {x y z : AV} {a b : Value} {H' : List ABlk} (hi : Inv g w H) (h : evMakeSlice P st t x y H = some (z, H')) (hx : repA g w H x a) (hy : repA g w H y b) :
    ∃ v w' g', (Instr.makeSlice t a b).run P w = .ok v w' ∧ Inv g' w' H' ∧ Ext g w H g' w' H' ∧ repA g' w' H' z v := by
  unfold evMakeSlice at h
  split at h
  case h_2 => cases h
  case h_1 e l c he =>
  simp only [repA, rep] at hx hy; subst hx hy
  split at h
  case h_2 => cases h
  case h_1 size bytes zs h1 h2 h3 =>
  split at h
  · cases h
  rename_i hsz0
  have hsz : size ≠ 0 ∧ zs.length = size := by omega
  split at h
  case isFalse => cases h
  case isTrue hc =>
  obtain ⟨zv, hz, hzr, hzc⟩ := zeroT_run h3 g w H
  have hzl := repLA_size hzr
  obtain ⟨i, hti, hib⟩ := bytesT_run h2 w
  have hl : IntKind.i64.wrap l = l := by simp only [IntKind.wrap, IntKind.bits, IntKind.signed]; simp; omega
  have hcw : IntKind.i64.wrap c = c := by simp only [IntKind.wrap, IntKind.bits, IntKind.signed]; simp; omega
  have hbl : (bytes : Int) * l ≤ bytes * c := Int.mul_le_mul_of_nonneg_left hc.2.1 (by omega)
  have hrun : (Instr.makeSlice t (.int .i64 l) (.int .i64 c)).run P w = .ok (.slice (some ⟨w.heap.size, 0, none⟩) l.toNat c.toNat) (pushB w (.cells ((Array.range (c.toNat * size)).map (fun i => zv.cells[i % zv.cells.size]!)) e)) := by
    simp only [Instr.makeSlice, Sem.run_bind, elemT_run he, Result.andThen_ok, asInt, asIntOf, Sem.run_pure, hti, hib, hl, hcw]
    rw [if_neg]
    · simp only [Sem.run_bind, run_askRoom, Result.andThen_ok, sizeT_run h1]
      by_cases hk : c.toNat * size = 0
      · simp [hk, newRow, pushB, range0]
      · simp [hk, hz, newRow, pushB]
    · simp only [Bool.or_eq_true, decide_eq_true_eq]
      have : ¬ ((bytes : Int) * c > 2 ^ 48) := by have := hc.2.2.2; omega
      omega
  have hcl : ((Array.range (c.toNat * size)).map (fun i => zv.cells[i % zv.cells.size]!)).size = c.toNat * size := by simp
  have hle : l.toNat ≤ c.toNat := by omega
  have hzr2 := zeros_rep (n := c.toNat) (m := c.toNat * size) hzr (by rw [hsz.2])
  have hzr3 : repLA g w H (List.replicate l.toNat zs).flatten (((Array.range (c.toNat * size)).map (fun i => zv.cells[i % zv.cells.size]!)).toList.take (l.toNat * size)) := by
    have := repLA_take (l.toNat * size) hzr2
    have e1 : (List.replicate c.toNat zs).flatten.take (l.toNat * size) = (List.replicate l.toNat zs).flatten := by
      obtain ⟨d, hd⟩ : ∃ d, c.toNat = l.toNat + d := ⟨c.toNat - l.toNat, by omega⟩
      rw [hd, ← List.replicate_append_replicate, List.flatten_append, List.take_left' (by simp [List.length_flatten, hsz.2])]
    rwa [e1] at this
  have hfl : (List.replicate l.toNat zs).flatten.length = l.toNat * size := by simp [List.length_flatten, hsz.2]
  have hmul : l.toNat * size ≤ c.toNat * size := Nat.mul_le_mul_right _ hle
  split at h
  · split at h
    · rename_i hlc
      split at h
      · rename_i xs hxs
        cases h
        have hpe := mapO_pure hxs
        rw [hpe] at hzr3 hfl
        simp at hfl
        obtain ⟨g', i1, i2, i3, i4⟩ := newFrozen (e := e) (xs := xs) hi (by rw [hcl]; omega) (by rw [hfl]; exact hzr3)
        refine ⟨_, _, g', hrun, i1, i2, ?_⟩
        simp only [repA, rep]
        exact ⟨_, _, rfl, by omega, fun _ => by omega, by simp, .inr ⟨_, _, rfl, i3, i4⟩⟩
      · cases h
    · cases h
  · cases h
    obtain ⟨i0, i1, i2⟩ := newRow_run (P := P) (e := e) (cs := (List.replicate l.toNat zs).flatten) hi (by rw [hcl, hfl]; exact hmul) (by rw [hfl]; exact hzr3) (zeros_all hzc _)
    refine ⟨_, _, _, hrun, i1, i2, ?_⟩
    simp only [repA]
    refine ⟨_, _, rfl, by omega, _, by simp; rfl, by simp, fun _ => ⟨.inr (by simp [gNew]), _, e, (0, 0), by simp [gNew, pushB_get]; rfl, by simp⟩⟩
end Go.Ev
