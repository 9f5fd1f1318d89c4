/- Each operation of the model does what the evaluator tells: memory. -/
import Derived.Test.YtjnpencafmjmpaaGreatDoorEvF
set_option linter.unusedVariables false
set_option linter.unusedSimpArgs false
namespace Go.Ev
open Go.RowKit
variable {P : Program} {g : G} {w : World} {H : List ABlk}

theorem repLA_size {cs : List AV} {a : Array Value} (h : repLA g w H cs a.toList) : cs.length = a.size := (repLA_length h).trans (Array.length_toList)
theorem repLA_whole {cs : List AV} {a : Array Value} (h : repLA g w H cs a.toList) : repLA g w H cs (a.toList.take cs.length) := by
  rw [List.take_of_length_le (by rw [repLA_length h]; exact Nat.le_refl _)]; exact h
/-! ### Reading -/
theorem cell_of {b o : Nat} {c : Array Value} {e : TypeId} {fr : Nat × Nat} (h : w.heap[b]? = some (.cells c e fr)) : w.cell? ⟨b, o, none⟩ = c[o]? := by
  simp [World.cell?, h]
theorem load_list (b o : Nat) (vs : List Value) (h : ∀ j v, vs[j]? = some v → w.cell? ⟨b, o + j, none⟩ = some v) : (loadCells ⟨b, o, none⟩ vs.length).run P w = .ok vs.toArray w :=
  run_loadCells_list w ⟨b, o, none⟩ vs fun j v hv => by rw [addr_add]; exact h j v hv
theorem blkRead_run {id ver off n : Nat} {cs : List AV} (hi : Inv g w H) (h : blkRead H id ver off n = some cs) :
    ∃ B, H[id]? = some B ∧ B.ver = ver ∧ cs.length = n ∧ ∃ vs : List Value, vs.length = n ∧ repLA g w H cs vs ∧ cs.all AV.isCell = true ∧ ∀ j v, vs[j]? = some v → w.cell? ⟨g.φ id, off + j, none⟩ = some v := by
  unfold blkRead at h
  cases hB : H[id]? with
  | none => rw [hB] at h; cases h
  | some B =>
    rw [hB] at h
    simp only at h
    split at h
    · rename_i hc
      cases h
      obtain ⟨c, e, fr, h1, h2, h3, h4, h5, h6⟩ := hi.blk id B hB
      have hlen : ((B.cells.drop off).take n).length = n := by rw [List.length_take, List.length_drop]; omega
      refine ⟨B, rfl, hc.1, hlen, (((c.toList.take B.cells.length).drop off).take n), ?_, repLA_take n (repLA_drop off h4), ?_, fun j v hv => ?_⟩
      · rw [← repLA_length (repLA_take n (repLA_drop off h4)), hlen]
      · rw [List.all_eq_true] at h5 ⊢
        intro x hx
        exact h5 x (List.mem_of_mem_drop (List.mem_of_mem_take hx))
      · rw [cell_of h1, ← Array.getElem?_toList]
        rw [List.getElem?_take] at hv
        split at hv
        · rw [List.getElem?_drop, List.getElem?_take] at hv
          split at hv
          · exact hv
          · cases hv
        · cases hv
    · cases h
theorem repF_vals {F : Nat → Prop} {b off : Nat} : ∀ {cs : List PV}, repF F w b off cs → ∃ vs : List Value, repL F w cs vs ∧ ∀ j v, vs[j]? = some v → w.cell? ⟨b, off + j, none⟩ = some v
  | [], _ => ⟨[], by simp [repL], by simp⟩
  | x :: xs, h => by
    simp only [repF] at h
    obtain ⟨⟨u, hu, hr⟩, h2⟩ := h
    obtain ⟨vs, h3, h4⟩ := repF_vals h2
    refine ⟨u :: vs, by simp only [repL]; exact ⟨hr, h3⟩, fun j v hv => ?_⟩
    cases j with
    | zero => simp at hv; subst hv; exact hu
    | succ j => simp at hv; rw [← h4 j v hv]; congr 2; omega
theorem evLoad_run {t : TypeId} {x z : AV} {a : Value} (hi : Inv g w H) (h : evLoad P t x H = some z) (hx : repA g w H x a) : ∃ v, (Instr.loadAt t a).run P w = .ok v w ∧ repA g w H z v := by
  unfold evLoad at h
  split at h
  case h_1 id ver off n h1 h2 =>
    simp only [repA] at hx
    obtain ⟨A, rfl, B, hB, hv, hA⟩ := hx
    split at h
    · rename_i cs hr
      cases h
      obtain ⟨B', hB', hver, hl, vs, hvl, hrep, _, hcell⟩ := blkRead_run hi hr
      rw [hB] at hB'; cases hB'
      have := hA hver; subst this
      refine ⟨.agg vs.toArray, ?_, mkAgg_rep hrep⟩
      have := load_list (P := P) (g.φ id) off vs hcell
      rw [hvl] at this
      simp only [Instr.loadAt, Instr.sureAddr, loadVar, Sem.run_bind, Sem.run_pure, Result.andThen_ok, aggT_run h2, sizeT_run h1, Sem.run_ite, if_true, this]
    · cases h
  case h_2 id ver off n h1 h2 =>
    simp only [repA] at hx
    obtain ⟨A, rfl, B, hB, hv, hA⟩ := hx
    split at h
    · rename_i c hr
      cases h
      obtain ⟨B', hB', hver, hl, vs, hvl, hrep, _, hcell⟩ := blkRead_run hi hr
      rw [hB] at hB'; cases hB'
      have := hA hver; subst this
      match vs, hvl, hrep, hcell with
      | [v], _, hrep, hcell =>
        simp only [repLA, and_true] at hrep
        refine ⟨v, ?_, hrep⟩
        have := hcell 0 v (by simp)
        simp only [Instr.loadAt, Instr.sureAddr, loadVar, Sem.run_bind, Sem.run_pure, Result.andThen_ok, aggT_run h2, Sem.run_ite, Bool.false_eq_true, if_false, run_load, Nat.add_zero] at this ⊢
        rw [this]
    · cases h
  case h_3 cs n h1 h2 =>
    simp only [repA] at hx
    obtain ⟨b, off, rfl, hb, hr⟩ := hx
    split at h
    · rename_i hn
      cases h
      obtain ⟨vs, hrep, hcell⟩ := repF_vals (repF_take n hr)
      refine ⟨.agg vs.toArray, ?_, by simp only [repA, rep]; exact ⟨_, rfl, by simpa using hrep⟩⟩
      have := load_list (P := P) b off vs hcell
      have hl := repL_length hrep
      rw [List.length_take] at hl
      rw [show vs.length = n by omega] at this
      simp only [Instr.loadAt, Instr.sureAddr, loadVar, Sem.run_bind, Sem.run_pure, Result.andThen_ok, aggT_run h2, sizeT_run h1, Sem.run_ite, if_true, this]
    · cases h
  case h_4 c cs n h1 h2 =>
    simp only [repA] at hx
    obtain ⟨b, off, rfl, hb, hr⟩ := hx
    cases h
    simp only [repF] at hr
    obtain ⟨⟨u, hu, hru⟩, _⟩ := hr
    refine ⟨u, ?_, by simp only [repA]; exact hru⟩
    simp only [Instr.loadAt, Instr.sureAddr, loadVar, Sem.run_bind, Sem.run_pure, Result.andThen_ok, aggT_run h2, Sem.run_ite, Bool.false_eq_true, if_false, run_load, hu]
  case h_5 => cases h

/-! ### Writing -/
def setV (l : List Value) (off : Nat) : List Value → List Value
  | [] => l
  | v :: vs => setV (l.set off v) (off + 1) vs
theorem setV_length (vs : List Value) : ∀ l off, (setV l off vs).length = l.length := by
  induction vs with
  | nil => intro l off; rfl
  | cons v vs ih => intro l off; simp [setV, ih]
theorem setV_take (n : Nat) (vs : List Value) : ∀ l off, (setV l off vs).take n = setV (l.take n) off vs := by
  induction vs with
  | nil => intro l off; rfl
  | cons v vs ih => intro l off; simp only [setV, ih, List.take_set]
theorem repLA_setAt {cs : List AV} : ∀ {us : List Value} {xs : List AV} {vs : List Value} {off : Nat}, repLA g w H cs us → repLA g w H xs vs → repLA g w H (setAt xs off cs) (setV vs off us) := by
  induction cs with
  | nil => intro us xs vs off h1 h2; cases us with
    | nil => exact h2
    | cons => simp [repLA] at h1
  | cons c cs ih => intro us xs vs off h1 h2; cases us with
    | nil => simp [repLA] at h1
    | cons u us => simp only [repLA] at h1; simp only [setAt, setV]; exact ih h1.2 (repLA_set h1.1 off h2)
theorem setAt_length (cs : List AV) : ∀ xs off, (setAt xs off cs).length = xs.length := by
  induction cs with
  | nil => intro xs off; rfl
  | cons c cs ih => intro xs off; simp [setAt, ih]
theorem setAt_all (cs : List AV) : ∀ xs off, cs.all AV.isCell = true → xs.all AV.isCell = true → (setAt xs off cs).all AV.isCell = true := by
  induction cs with
  | nil => intro xs off _ h; exact h
  | cons c cs ih =>
    intro xs off h1 h2
    simp only [List.all_cons, Bool.and_eq_true] at h1
    refine ih _ _ h1.2 ?_
    rw [List.all_eq_true] at h2 ⊢
    intro x hx
    rcases List.mem_or_eq_of_mem_set hx with h | h
    · exact h2 x h
    · rw [h]; exact h1.1
theorem putB_self {b : Nat} {o : Obj} (h : w.heap[b]? = some o) : putB w b o = w := by
  have : w.heap.setIfInBounds b o = w.heap := by
    apply Array.ext_getElem?
    intro i
    rw [Array.getElem?_setIfInBounds]
    split
    · rename_i he; subst he; rw [h]; simp [lt_of_aget h]
    · rfl
  simp [putB, this]
theorem putB_putB (b : Nat) (o o' : Obj) : putB (putB w b o) b o' = putB w b o' := by
  simp [putB]
theorem setCell_put {b o : Nat} {c : Array Value} {e : TypeId} {fr : Nat × Nat} (v : Value) (h : w.heap[b]? = some (.cells c e fr)) : w.setCell ⟨b, o, none⟩ v = putB w b (.cells (c.setIfInBounds o v) e fr) := by
  simp only [World.setCell, putB]
  congr 1
  apply Array.ext_getElem?
  intro i
  rw [Array.getElem?_modify, Array.getElem?_setIfInBounds]
  by_cases hi : b = i
  · subst hi; rw [h]; simp [lt_of_aget h]
  · simp [hi]
theorem storeCells_run (b o : Nat) (e : TypeId) (fr : Nat × Nat) : ∀ (vs : List Value) (i : Nat) (cur : Array Value) (w : World), w.heap[b]? = some (.cells cur e fr) → (∀ j, j < cur.size → ¬ (fr.1 ≤ j ∧ j < fr.2)) → o + i + vs.length ≤ cur.size → (∀ v ∈ vs, v.oneCell' = true) →
    (storeCells ⟨b, o, none⟩ vs i).run P w = .ok () (putB w b (.cells (setV cur.toList (o + i) vs).toArray e fr))
  | [], i, cur, w, h, _, _, _ => by simp only [storeCells, setV]; rw [putB_self (by simpa using h)]; rfl
  | v :: vs, i, cur, w, h, hf, hl, h1 => by
    simp only [List.length_cons] at hl
    have hc : w.cell? ⟨b, o + i, none⟩ = some cur[o + i] := by rw [cell_of h]; exact Array.getElem?_eq_getElem (by omega)
    have hfr : w.frozen? ⟨b, o + i, none⟩ = false := by
      simp only [World.frozen?, h]
      have := hf (o + i) (by omega)
      simpa using this
    simp only [storeCells, Sem.run_bind, addr_add, run_store P w _ v _ (h1 v (by simp)), hc, hfr, Bool.false_eq_true, if_false, Result.andThen_ok]
    rw [setCell_put v h]
    rw [storeCells_run b o e fr vs (i + 1) (cur.setIfInBounds (o + i) v) _ (by rw [putB_get, if_pos rfl, if_pos (lt_of_aget h)]) (fun j hj => hf j (by simpa using hj)) (by simp; omega) (fun u hu => h1 u (by simp [hu]))]
    rw [putB_putB]
    simp only [setV, Array.toList_setIfInBounds]
    rw [show o + (i + 1) = o + i + 1 by omega]
/-- What a store into a block of the call's own does. -/
theorem write_run {id : Nat} {B : ABlk} {off : Nat} {cs : List AV} {us : List Value} (hi : Inv g w H) (hB : H[id]? = some B) (hf : B.fz = false) (hr : repLA g w H cs us) (hc : cs.all AV.isCell = true) (hl : off + cs.length ≤ B.cells.length) :
    ∃ w', (storeCells ⟨g.φ id, off, none⟩ us).run P w = .ok () w' ∧ Inv g w' (H.set id { B with cells := setAt B.cells off cs }) ∧ Ext g w H g w' (H.set id { B with cells := setAt B.cells off cs }) := by
  obtain ⟨c, e, fr, h1, h2, h3, h4, h5, h6⟩ := hi.blk id B hB
  have hlen := repLA_length hr
  refine ⟨_, storeCells_run (g.φ id) off e fr us 0 c w h1 h2 (by omega) (all_one hr hc), ?_, ?_⟩
  · have hsz : (setV c.toList (off + 0) us).toArray.size = c.size := by simp [setV_length]
    have : B.fz = false := hf
    have hbe : ({ B with cells := setAt B.cells off cs } : ABlk) = ⟨B.ver, false, setAt B.cells off cs⟩ := by rw [← hf]
    rw [hbe]
    refine put_inv hi hB hf h1 _ hsz B.ver (setAt B.cells off cs) (Nat.le_refl _) (by rw [setAt_length, hsz]; exact h3) ?_ (setAt_all _ _ _ hc h5)
    rw [setAt_length]
    show repLA g w H _ ((setV c.toList (off + 0) us).take _)
    rw [setV_take]
    exact repLA_setAt hr h4
  · exact put_ext hi hB hf h1 _ (by simp [setV_length]) _ (Nat.le_refl _)
theorem evStore_run {t : TypeId} {x y : AV} {a v : Value} {H' : List ABlk} (hi : Inv g w H) (h : evStore P t x y H = some H') (hx : repA g w H x a) (hy : repA g w H y v) :
    ∃ w', (Instr.storeAt t a v).run P w = .ok () w' ∧ Inv g w' H' ∧ Ext g w H g w' H' := by
  unfold evStore at h
  split at h
  case h_1 id ver off n cs h1 h2 =>
    simp only [repA] at hx
    obtain ⟨A, rfl, B0, hB0, hv, hA⟩ := hx
    rw [hB0] at h
    simp only at h
    split at h
    · rename_i hc
      cases h
      have := hA hc.1; subst this
      obtain ⟨hr, hcell⟩ := cellsOf_rep hy h2
      obtain ⟨w', hw, hinv, hext⟩ := write_run (P := P) hi hB0 hc.2.1 hr hcell (by rw [hc.2.2.1]; exact hc.2.2.2)
      refine ⟨w', ?_, hinv, hext⟩
      have hl := repLA_size hr
      simp only [Instr.storeAt, Instr.sureAddr, storeVar, Sem.run_bind, Sem.run_pure, Result.andThen_ok, sizeT_run h1]
      rw [if_neg (by omega)]
      exact hw
    · cases h
  case h_2 => cases h

/-! ### A new block -/
theorem newRow_run {e : TypeId} {c : Array Value} {cs : List AV} (hi : Inv g w H) (hl : cs.length ≤ c.size) (hr : repLA g w H cs (c.toList.take cs.length)) (hc : cs.all AV.isCell = true) :
    (newRow e c).run P w = .ok ⟨w.heap.size, 0, none⟩ (pushB w (.cells c e)) ∧ Inv (gNew g H.length w.heap.size) (pushB w (.cells c e)) (H ++ [⟨0, false, cs⟩]) ∧ Ext g w H (gNew g H.length w.heap.size) (pushB w (.cells c e)) (H ++ [⟨0, false, cs⟩]) :=
  ⟨by simp [newRow, pushB], new_inv hi c e (0, 0) (by intro j _; simp) 0 cs hl hr hc, new_ext hi _ _⟩
theorem pt_new {B : ABlk} (hv : B.ver = 0) : repA (gNew g H.length w.heap.size) (pushB w (.cells #[] 0)) (H ++ [B]) (.pt H.length 0 0) (.pointer (some ⟨w.heap.size, 0, none⟩)) := by
  simp only [repA]
  exact ⟨_, rfl, B, by simp, by omega, fun _ => by simp [gNew]⟩
theorem evBox_run {e : TypeId} {x : AV} {v : Value} {cs : List AV} (hi : Inv g w H) (hx : repA g w H x v) (hc : cellsOf x = some cs) :
    ∃ u w' g', (Instr.box e v).run P w = .ok u w' ∧ Inv g' w' (H ++ [⟨0, false, cs⟩]) ∧ Ext g w H g' w' (H ++ [⟨0, false, cs⟩]) ∧ repA g' w' (H ++ [⟨0, false, cs⟩]) (.pt H.length 0 0) u := by
  obtain ⟨hr, hcell⟩ := cellsOf_rep hx hc
  have hl := repLA_size hr
  obtain ⟨h1, h2, h3⟩ := newRow_run (P := P) (e := e) (c := v.cells) (cs := cs) hi (by omega) (repLA_whole hr) hcell
  refine ⟨_, _, _, by simp only [Instr.box, newVar, Sem.run_bind, h1, Result.andThen_ok, Sem.run_pure]; rfl, h2, h3, ?_⟩
  simp only [repA]
  exact ⟨_, rfl, _, by simp; rfl, by simp, fun _ => by simp [gNew]⟩
theorem evAlloc_run {e : TypeId} {cs : List AV} (hi : Inv g w H) (hz : zeroT P e = some cs) :
    ∃ u w' g', (Instr.alloc e true (.tuple #[])).run P w = .ok u w' ∧ Inv g' w' (H ++ [⟨0, false, cs⟩]) ∧ Ext g w H g' w' (H ++ [⟨0, false, cs⟩]) ∧ repA g' w' (H ++ [⟨0, false, cs⟩]) (.pt H.length 0 0) u := by
  obtain ⟨z, hz1, hr, hcell⟩ := zeroT_run hz g w H
  have hl := repLA_size hr
  obtain ⟨h1, h2, h3⟩ := newRow_run (P := P) (e := e) (c := z.cells) (cs := cs) hi (by omega) (repLA_whole hr) hcell
  refine ⟨_, _, _, by simp only [Instr.alloc, newVar, Sem.run_bind, hz1, h1, Result.andThen_ok, Sem.run_pure]; rfl, h2, h3, ?_⟩
  simp only [repA]
  exact ⟨_, rfl, _, by simp; rfl, by simp, fun _ => by simp [gNew]⟩
end Go.Ev
