/- Calls. -/
import Derived.Test.YtjnpencafmjmpaaGreatDoorEvK
set_option linter.unusedVariables false
set_option linter.unusedSimpArgs false
namespace Go.Ev
open Go.RowKit
variable {g : G} {w : World} {H : List ABlk}

theorem mapO_mono {α β : Type} {f f' : α → Option β} : ∀ {xs : List α} {ys : List β}, mapO f xs = some ys → (∀ x ∈ xs, ∀ y, f x = some y → f' x = some y) → mapO f' xs = some ys
  | [], ys, h, _ => h
  | x :: xs, ys, h, hf => by
    simp only [mapO] at h ⊢
    cases hx : f x with
    | none => rw [hx] at h; cases h
    | some y =>
      rw [hx] at h
      rw [hf x (by simp) y hx]
      simp only at h ⊢
      cases hxs : mapO f xs with
      | none => rw [hxs] at h; cases h
      | some zs =>
        rw [hxs] at h
        rw [mapO_mono hxs (fun x hx => hf x (by simp [hx]))]
        exact h
theorem frz_strict {H H' : List ABlk} (hu : FzUp H H') : ∀ (k : Nat) (a : AV) (x : PV), frz false H k a = some x → (∀ id ∈ ids H k a, ∀ B', H'[id]? = some B' → B'.fz = true) → frz true H' k a = some x := by
  intro k
  induction k with
  | zero => intro a x h _; cases a <;> simp only [frz] at h ⊢ <;> first | exact h | cases h
  | succ k ih =>
    intro a x h hids
    have lst : ∀ (cs : List AV) (xs : List PV), mapO (frz false H k) cs = some xs → (∀ id ∈ cs.flatMap (ids H k), ∀ B', H'[id]? = some B' → B'.fz = true) → mapO (frz true H' k) cs = some xs := fun cs xs h1 h2 =>
      mapO_mono h1 fun c hc y hy => ih c y hy fun id hid B' hB' => h2 id (List.mem_flatMap.2 ⟨c, hc, hid⟩) B' hB'
    cases a with
    | p y => simp only [frz] at h ⊢; exact h
    | ms id ver off n sz =>
      simp only [frz] at h ⊢
      simp only [ids] at hids
      cases hB : H[id]? with
      | none => rw [hB] at h; cases h
      | some B =>
        rw [hB] at h hids
        simp only at h hids
        obtain ⟨B', hB', e1, e2, e3⟩ := hu.blk id B hB
        rw [hB']
        simp only
        split at h
        · rename_i hc
          have hz := hids id (by simp) B' hB'
          rw [if_pos ⟨by rw [e1]; exact hc.1, by rw [e2]; exact hc.2.1, .inr hz⟩, e2]
          cases hm : mapO (frz false H k) ((B.cells.drop off).take (n * sz)) with
          | none => rw [hm] at h; cases h
          | some cs =>
            rw [hm] at h
            rw [lst _ cs hm (fun id hid => hids id (by simp only [List.mem_cons]; exact .inr hid))]
            exact h
        · cases h
    | pt => simp [frz] at h
    | ip => simp [frz] at h
    | fn f a b =>
      simp only [frz] at h ⊢
      simp only [ids] at hids
      cases h1 : mapO (frz false H k) a with
      | none => rw [h1] at h; cases h
      | some xs =>
        cases h2 : mapO (frz false H k) b with
        | none => rw [h1, h2] at h; cases h
        | some ys =>
          rw [h1, h2] at h
          rw [lst _ xs h1 (fun id hid => hids id (List.mem_append.2 (.inl hid))), lst _ ys h2 (fun id hid => hids id (List.mem_append.2 (.inr hid)))]
          exact h
    | agg cs =>
      simp only [frz] at h ⊢
      simp only [ids] at hids
      cases h1 : mapO (frz false H k) cs with
      | none => rw [h1] at h; cases h
      | some xs => rw [h1] at h; rw [lst _ xs h1 hids]; exact h
    | tup cs =>
      simp only [frz] at h ⊢
      simp only [ids] at hids
      cases h1 : mapO (frz false H k) cs with
      | none => rw [h1] at h; cases h
      | some xs => rw [h1] at h; rw [lst _ xs h1 hids]; exact h
theorem norm_rep_all {F : Nat → Prop} {w : World} : ∀ n, (∀ x : PV, SizeOf.sizeOf x ≤ n → ∀ v, rep F w x v → rep F w (norm x) v) ∧ (∀ xs : List PV, SizeOf.sizeOf xs ≤ n → (∀ vs, repL F w xs vs → repL F w (normL xs) vs) ∧ (∀ b off, repF F w b off xs → repF F w b off (normL xs))) := by
  intro n
  induction n with
  | zero =>
    refine ⟨fun x hx => ?_, fun xs hx => ?_⟩
    · cases x <;> simp at hx <;> omega
    · cases xs <;> simp at hx
  | succ n ih =>
    obtain ⟨ih1, ih2⟩ := ih
    refine ⟨fun x hx v h => ?_, fun xs hx => ⟨fun vs h => ?_, fun b off h => ?_⟩⟩
    · cases x with
      | sl m e cs =>
        simp at hx
        simp only [norm, rep] at h ⊢
        obtain ⟨A, cap, rfl, h1, h2, h4, h3⟩ := h
        refine ⟨A, cap, rfl, h1, by simp, h4, ?_⟩
        rcases h3 with rfl | ⟨b, off, rfl, hb, hr⟩
        · left; rfl
        · right; exact ⟨b, off, rfl, hb, (ih2 cs (by omega)).2 b off hr⟩
      | agg cs =>
        simp at hx
        simp only [norm, rep] at h ⊢
        obtain ⟨vs, rfl, hr⟩ := h
        exact ⟨vs, rfl, (ih2 cs (by omega)).1 _ hr⟩
      | tup cs =>
        simp at hx
        simp only [norm, rep] at h ⊢
        obtain ⟨vs, rfl, hr⟩ := h
        exact ⟨vs, rfl, (ih2 cs (by omega)).1 _ hr⟩
      | fn f a b =>
        simp at hx
        simp only [norm, rep] at h ⊢
        obtain ⟨as, bs, rfl, hr, hs⟩ := h
        exact ⟨as, bs, rfl, (ih2 a (by omega)).1 _ hr, (ih2 b (by omega)).1 _ hs⟩
      | nsl b =>
        simp only [norm, rep] at h ⊢
        obtain ⟨A, cap, rfl, h1, _⟩ := h
        exact ⟨A, cap, rfl, Nat.zero_le _, by simp, h1, .inl trivial⟩
      | _ => simpa [norm] using h
    · match xs, vs, h with
      | [], [], _ => simp [normL, repL]
      | x :: xs, v :: vs, h =>
        simp at hx
        simp only [normL, repL] at h ⊢
        exact ⟨ih1 x (by omega) v h.1, (ih2 xs (by omega)).1 vs h.2⟩
    · match xs, h with
      | [], _ => simp [normL, repF]
      | x :: xs, h =>
        simp at hx
        simp only [normL, repF] at h ⊢
        obtain ⟨⟨u, hu, hr⟩, h2⟩ := h
        exact ⟨⟨u, hu, ih1 x (by omega) u hr⟩, (ih2 xs (by omega)).2 b _ h2⟩
theorem norm_rep {F : Nat → Prop} {w : World} {x : PV} {v : Value} (h : rep F w x v) : rep F w (norm x) v := (norm_rep_all (SizeOf.sizeOf x)).1 x (Nat.le_refl _) v h
theorem frz_rep (hi : Inv g w H) : ∀ (k : Nat) (a : AV) (x : PV) (v : Value), frz true H k a = some x → repA g w H a v → rep g.F w x v := by
  intro k
  induction k with
  | zero => intro a x v h hr; cases a <;> simp only [frz] at h <;> first | (cases h; exact norm_rep (by simpa only [repA] using hr)) | cases h
  | succ k ih =>
    intro a x v h hr
    have lst : ∀ (cs : List AV) (xs : List PV) (vs : List Value), mapO (frz true H k) cs = some xs → repLA g w H cs vs → repL g.F w xs vs := fun cs xs vs h1 h2 => by
      obtain ⟨hl, hi1⟩ := mapO_spec h1
      obtain ⟨hl2, hi2⟩ := repLA_iff.1 h2
      rw [repL_iff]
      refine ⟨by omega, fun i y hy => ?_⟩
      have hlt := lt_of_get hy
      obtain ⟨y', hy', hf⟩ := hi1 i cs[i] (List.getElem?_eq_getElem (by omega))
      rw [hy] at hy'; cases hy'
      obtain ⟨u, hu, hur⟩ := hi2 i cs[i] (List.getElem?_eq_getElem (by omega))
      exact ⟨u, hu, ih _ _ _ hf hur⟩
    cases a with
    | p y => simp only [frz] at h; cases h; exact norm_rep (by simpa only [repA] using hr)
    | ms id ver off n sz =>
      simp only [frz] at h
      simp only [repA] at hr
      obtain ⟨A, cap, rfl, hc, B, hB, hv, hA⟩ := hr
      rw [hB] at h
      simp only at h
      split at h
      · rename_i hcond
        cases hm : mapO (frz true H k) ((B.cells.drop off).take (n * sz)) with
        | none => rw [hm] at h; cases h
        | some cs =>
          rw [hm] at h; cases h
          obtain ⟨hA1, c, e, fr, hcell, hcs⟩ := hA hcond.1
          obtain ⟨c0, e0, fr0, d1, d2, d3, d4, d5, d6⟩ := hi.blk id B hB
          have hz : B.fz = true := by rcases hcond.2.2 with h | h; cases h; exact h
          simp only [rep]
          refine ⟨some A, cap, rfl, hc, by simp, by simp, ?_⟩
          rcases hA1 with h0 | rfl
          · left
            have hn : n = 0 := by omega
            have := (mapO_spec hm).1
            rw [hn] at this
            exact List.eq_nil_of_length_eq_zero (by simpa using this.symm)
          · right
            refine ⟨g.φ id, off, rfl, d6.1 hz, ?_⟩
            have hL := lst _ cs _ hm (repLA_take (n * sz) (repLA_drop off d4))
            obtain ⟨hl, hget⟩ := repL_iff.1 hL
            rw [repF_iff]
            intro i y hy
            obtain ⟨u, hu, hur⟩ := hget i y hy
            refine ⟨u, ?_, hur⟩
            rw [cell_of d1, ← Array.getElem?_toList]
            rw [List.getElem?_take] at hu
            split at hu
            · rw [List.getElem?_drop, List.getElem?_take] at hu
              split at hu
              · exact hu
              · cases hu
            · cases hu
      · cases h
    | pt => simp [frz] at h
    | ip => simp [frz] at h
    | fn f a b =>
      simp only [frz] at h
      simp only [repA] at hr
      obtain ⟨as, bs, rfl, r1, r2⟩ := hr
      cases h1 : mapO (frz true H k) a with
      | none => rw [h1] at h; cases h
      | some xs =>
        cases h2 : mapO (frz true H k) b with
        | none => rw [h1, h2] at h; cases h
        | some ys =>
          rw [h1, h2] at h; cases h
          simp only [rep]
          exact ⟨as, bs, rfl, lst _ _ _ h1 r1, lst _ _ _ h2 r2⟩
    | agg cs =>
      simp only [frz] at h
      simp only [repA] at hr
      obtain ⟨vs, rfl, r1⟩ := hr
      cases h1 : mapO (frz true H k) cs with
      | none => rw [h1] at h; cases h
      | some xs => rw [h1] at h; cases h; simp only [rep]; exact ⟨vs, rfl, lst _ _ _ h1 r1⟩
    | tup cs =>
      simp only [frz] at h
      simp only [repA] at hr
      obtain ⟨vs, rfl, r1⟩ := hr
      cases h1 : mapO (frz true H k) cs with
      | none => rw [h1] at h; cases h
      | some xs => rw [h1] at h; cases h; simp only [rep]; exact ⟨vs, rfl, lst _ _ _ h1 r1⟩
theorem frzL_rep (hi : Inv g w H) {as : List AV} {xs : List PV} {vs : List Value} (h : mapO (frz true H deep) as = some xs) (hr : repLA g w H as vs) : repL g.F w xs vs := by
  obtain ⟨hl, hi1⟩ := mapO_spec h
  obtain ⟨hl2, hi2⟩ := repLA_iff.1 hr
  rw [repL_iff]
  refine ⟨by omega, fun i y hy => ?_⟩
  have hlt := lt_of_get hy
  obtain ⟨y', hy', hf⟩ := hi1 i as[i] (List.getElem?_eq_getElem (by omega))
  rw [hy] at hy'; cases hy'
  obtain ⟨u, hu, hur⟩ := hi2 i as[i] (List.getElem?_eq_getElem (by omega))
  exact ⟨u, hu, frz_rep hi _ _ _ _ hf hur⟩

/-- What a call that is handed what nothing changes does to the world. -/
structure PExt (F : Nat → Prop) (w : World) (F' : Nat → Prop) (w' : World) : Prop where
  sub : ∀ b, F b → F' b
  old : ∀ b, b < w.heap.size → w'.heap[b]? = w.heap[b]?
  size : w.heap.size ≤ w'.heap.size
  os : w'.os = w.os
  tape : w'.tape = w.tape
  output : w'.output = w.output
  newF : ∀ b, F' b → F b ∨ w.heap.size ≤ b
  bound : ∀ b, F' b → b < w'.heap.size
theorem PExt.ext {F' : Nat → Prop} {w' : World} (hi : Inv g w H) (h : PExt g.F w F' w') : Ext g w H ⟨F', g.φ⟩ w' H where
  F := h.sub
  keep b hb := h.old b (hi.F b hb)
  blk id B hB := ⟨B, hB, Nat.le_refl _, fun _ => ⟨rfl, fun c e fr hc => ⟨c, fr, (h.old _ (lt_of_aget hc)).trans hc, rfl⟩⟩⟩
  out b h1 _ _ := h.old b h1
  size := h.size
  os := h.os
  tape := h.tape
  output := h.output
  newF b hb := (h.newF b hb).imp id .inl
  newφ b hb := .inl hb
theorem PExt.inv {F' : Nat → Prop} {w' : World} (hi : Inv g w H) (h : PExt g.F w F' w') : Inv ⟨F', g.φ⟩ w' H where
  F := h.bound
  blk id B hB := by
    obtain ⟨c, e, fr, d1, d2, d3, d4, d5, d6⟩ := hi.blk id B hB
    have hlt := lt_of_aget d1
    refine ⟨c, e, fr, (h.old _ hlt).trans d1, d2, d3, repLA_mono (h.ext hi) d4, d5, fun hz => h.sub _ (d6.1 hz), fun hF => ?_⟩
    rcases h.newF _ hF with h' | h'
    · exact d6.2 h'
    · have : w.heap.size ≤ g.φ id := h'
      omega
  inj := hi.inj
theorem PExt.of_ext {F : Nat → Prop} {φ : Nat → Nat} {g' : G} {w' : World} {H' : List ABlk} (hi : Inv g' w' H') (h : Ext ⟨F, φ⟩ w [] g' w' H') : PExt F w g'.F w' where
  sub := h.F
  old b hb := by
    by_cases hF : F b
    · exact h.keep b hF
    · exact h.out b hb hF (by rintro ⟨id, B, hB, _⟩; simp at hB)
  size := h.size
  os := h.os
  tape := h.tape
  output := h.output
  newF b hb := by
    rcases h.newF b hb with h' | h' | ⟨id, B, hB, _⟩
    · exact .inl h'
    · exact .inr h'
    · simp at hB
  bound := hi.F

def CallPost (g : G) (w : World) (H : List ABlk) (r : AV) (H' : List ABlk) (e : Ending) (w' : World) : Prop :=
  ∃ v g', e = .returned v ∧ Inv g' w' H' ∧ Ext g w H g' w' H' ∧ repA g' w' H' r v
def CallOK (C : Cfg) (call : CallE) : Prop := ∀ f args H r H', call f args H = some (r, H') → ∀ (g : G) (w : World) (argv : Array Value), Inv g w H → repLA g w H args argv.toList → Calls C.P f argv w (CallPost g w H r H')
def OraPost (F : Nat → Prop) (w : World) (r : PV) (e : Ending) (w' : World) : Prop := ∃ v F', e = .returned v ∧ PExt F w F' w' ∧ rep F' w' r v
def OraOK (C : Cfg) : Prop := ∀ f xs r, C.O f xs = some r → ∀ (F : Nat → Prop) (w : World) (argv : Array Value), (∀ b, F b → b < w.heap.size) → repL F w xs argv.toList → Calls C.P f argv w (OraPost F w r)

/-! ### What a call made is the caller's own -/
theorem shift_rep {g2 : G} {H2 : List ABlk} (k : Nat) (hF : ∀ b, g.F b → g2.F b) (hH : ∀ (id : Nat) (B : ABlk), H[id]? = some B → ∃ B2, H2[id + k]? = some B2 ∧ B2.ver = B.ver ∧ g2.φ (id + k) = g.φ id) :
    ∀ n, (∀ x : AV, SizeOf.sizeOf x ≤ n → ∀ v, repA g w H x v → repA g2 w H2 (shift k x) v) ∧ (∀ xs : List AV, SizeOf.sizeOf xs ≤ n → ∀ vs, repLA g w H xs vs → repLA g2 w H2 (shiftL k xs) vs) := by
  intro n
  induction n with
  | zero =>
    refine ⟨fun x hx => ?_, fun xs hx => ?_⟩
    · cases x <;> simp at hx <;> omega
    · cases xs <;> simp at hx
  | succ n ih =>
    obtain ⟨ih1, ih2⟩ := ih
    refine ⟨fun x hs v h => ?_, fun xs hs vs h => ?_⟩
    · cases x with
      | p x => simp only [shift, repA] at h ⊢; exact rep_mono hF (fun _ _ => rfl) h
      | ms id ver off m sz =>
        simp only [shift, repA] at h ⊢
        obtain ⟨A, cap, rfl, hc, B, hB, hv, h⟩ := h
        obtain ⟨B2, hB2, hv2, hφ⟩ := hH id B hB
        exact ⟨A, cap, rfl, hc, B2, hB2, by omega, fun he => by rw [hφ]; exact h (by omega)⟩
      | pt id ver off =>
        simp only [shift, repA] at h ⊢
        obtain ⟨A, rfl, B, hB, hv, h⟩ := h
        obtain ⟨B2, hB2, hv2, hφ⟩ := hH id B hB
        exact ⟨A, rfl, B2, hB2, by omega, fun he => by rw [hφ]; exact h (by omega)⟩
      | ip cs =>
        simp only [shift, repA] at h ⊢
        obtain ⟨b, off, rfl, hb, hr⟩ := h
        exact ⟨b, off, rfl, hF b hb, repF_mono hF (fun _ _ => rfl) hb hr⟩
      | agg cs =>
        simp at hs
        simp only [shift, repA] at h ⊢
        obtain ⟨vs, rfl, hr⟩ := h
        exact ⟨vs, rfl, ih2 cs (by omega) _ hr⟩
      | tup cs =>
        simp at hs
        simp only [shift, repA] at h ⊢
        obtain ⟨vs, rfl, hr⟩ := h
        exact ⟨vs, rfl, ih2 cs (by omega) _ hr⟩
      | fn f a b =>
        simp at hs
        simp only [shift, repA] at h ⊢
        obtain ⟨as, bs, rfl, hr, hs2⟩ := h
        exact ⟨as, bs, rfl, ih2 a (by omega) _ hr, ih2 b (by omega) _ hs2⟩
    · match xs, vs, h with
      | [], [], _ => simp [shiftL, repLA]
      | x :: xs, v :: vs, h =>
        simp at hs
        simp only [shiftL, repLA] at h ⊢
        exact ⟨ih1 x (by omega) v h.1, ih2 xs (by omega) vs h.2⟩
theorem shift_isCell (k : Nat) : ∀ x : AV, (shift k x).isCell = x.isCell
  | .p x => rfl
  | .ms .. => rfl
  | .pt .. => rfl
  | .ip .. => rfl
  | .fn .. => rfl
  | .agg .. => rfl
  | .tup .. => rfl
theorem shiftL_eq (k : Nat) : ∀ xs : List AV, shiftL k xs = xs.map (shift k)
  | [] => rfl
  | x :: xs => by simp [shiftL, shiftL_eq k xs]
def gJoin (g : G) (n : Nat) (gc : G) : G := ⟨gc.F, fun i => if i < n then g.φ i else gc.φ (i - n)⟩
theorem join_get {H Hc : List ABlk} {id : Nat} {B : ABlk} (h : (H ++ Hc.map (shiftB H.length))[id]? = some B) :
    (id < H.length ∧ H[id]? = some B) ∨ (H.length ≤ id ∧ ∃ Bc, Hc[id - H.length]? = some Bc ∧ B = shiftB H.length Bc) := by
  by_cases hlt : id < H.length
  · rw [List.getElem?_append_left hlt] at h; exact .inl ⟨hlt, h⟩
  · rw [List.getElem?_append_right (by omega), List.getElem?_map] at h
    simp only [Option.map_eq_some_iff] at h
    obtain ⟨Bc, h1, h2⟩ := h
    exact .inr ⟨by omega, Bc, h1, h2.symm⟩
theorem join_ok {gc' : G} {w' : World} {Hc : List ABlk} (hi : Inv g w H) (hic : Inv gc' w' Hc) (hx : Ext ⟨g.F, fun _ => 0⟩ w [] gc' w' Hc) :
    Inv (gJoin g H.length gc') w' (H ++ Hc.map (shiftB H.length)) ∧ Ext g w H (gJoin g H.length gc') w' (H ++ Hc.map (shiftB H.length)) ∧ ∀ r v, repA gc' w' Hc r v → repA (gJoin g H.length gc') w' (H ++ Hc.map (shiftB H.length)) (shift H.length r) v := by
  have hp := PExt.of_ext hic hx
  have hshift := shift_rep (g := gc') (w := w') (H := Hc) (g2 := gJoin g H.length gc') (H2 := H ++ Hc.map (shiftB H.length)) H.length (fun b h => h) (fun id B hB => ⟨shiftB H.length B, by rw [List.getElem?_append_right (by omega), Nat.add_sub_cancel, List.getElem?_map, hB]; rfl, rfl, by simp only [gJoin]; rw [if_neg (by omega), Nat.add_sub_cancel]⟩)
  have hnew : ∀ (id : Nat) (B : ABlk), Hc[id]? = some B → w.heap.size ≤ gc'.φ id := fun id B hB => by
    rcases hx.newφ (gc'.φ id) ⟨id, B, hB, rfl⟩ with ⟨id2, B2, h2, _⟩ | h'
    · simp at h2
    · exact h'
  have hφ1 : ∀ i, i < H.length → (gJoin g H.length gc').φ i = g.φ i := fun i hi => by simp only [gJoin]; rw [if_pos hi]
  have hφ2 : ∀ i, H.length ≤ i → (gJoin g H.length gc').φ i = gc'.φ (i - H.length) := fun i hi => by simp only [gJoin]; rw [if_neg (by omega)]
  have hold : ∀ (id : Nat) (B : ABlk), H[id]? = some B → g.φ id < w.heap.size := fun id B hB => by
    obtain ⟨c, e, fr, d1, _⟩ := hi.blk id B hB; exact lt_of_aget d1
  have hext : Ext g w H (gJoin g H.length gc') w' (H ++ Hc.map (shiftB H.length)) := by
    refine ⟨hp.sub, fun b hb => hp.old b (hi.F b hb), fun id B hB => ?_, fun b h1 _ _ => hp.old b h1, hp.size, hp.os, hp.tape, hp.output, fun b hb => (hp.newF b hb).imp id .inl, fun b hb => ?_⟩
    · have hlt := lt_of_get hB
      exact ⟨B, by rw [List.getElem?_append_left hlt]; exact hB, Nat.le_refl _, fun _ => ⟨hφ1 id hlt, fun c e fr hc => ⟨c, fr, (hp.old _ (lt_of_aget hc)).trans hc, rfl⟩⟩⟩
    · obtain ⟨id, B, hB, hb⟩ := hb
      rcases join_get hB with ⟨hlt, hB'⟩ | ⟨hge, Bc, hBc, _⟩
      · rw [hφ1 id hlt] at hb; exact .inl ⟨id, B, hB', hb⟩
      · rw [hφ2 id hge] at hb; exact .inr (hb ▸ hnew _ _ hBc)
  refine ⟨⟨hp.bound, fun id B hB => ?_, fun i j Bi Bj hBi hBj fi fj he => ?_⟩, hext, fun r v hr => (hshift (SizeOf.sizeOf r)).1 r (Nat.le_refl _) v hr⟩
  · rcases join_get hB with ⟨hlt, hB'⟩ | ⟨hge, Bc, hBc, rfl⟩
    · obtain ⟨c, e, fr, d1, d2, d3, d4, d5, d6⟩ := hi.blk id B hB'
      refine ⟨c, e, fr, by rw [hφ1 id hlt]; exact (hp.old _ (lt_of_aget d1)).trans d1, d2, d3, repLA_mono hext d4, d5, fun hz => by rw [hφ1 id hlt]; exact hp.sub _ (d6.1 hz), fun hF => ?_⟩
      rw [hφ1 id hlt] at hF
      rcases hp.newF _ hF with h' | h'
      · exact d6.2 h'
      · have := lt_of_aget d1; omega
    · obtain ⟨c, e, fr, d1, d2, d3, d4, d5, d6⟩ := hic.blk _ Bc hBc
      refine ⟨c, e, fr, by rw [hφ2 id hge]; exact d1, d2, by simp only [shiftB, shiftL_eq, List.length_map]; exact d3, ?_, ?_, by rw [hφ2 id hge]; exact d6⟩
      · simp only [shiftB]
        have hl : (shiftL H.length Bc.cells).length = Bc.cells.length := by rw [shiftL_eq, List.length_map]
        rw [hl]
        exact (hshift (SizeOf.sizeOf Bc.cells)).2 _ (Nat.le_refl _) _ d4
      · simp only [shiftB, shiftL_eq, List.all_map]
        rw [List.all_eq_true] at d5 ⊢
        intro x hx
        simp only [Function.comp, shift_isCell]
        exact d5 x hx
  · rcases join_get hBi with ⟨hi1, hBi'⟩ | ⟨hi1, Bci, hBci, rfl⟩ <;> rcases join_get hBj with ⟨hj1, hBj'⟩ | ⟨hj1, Bcj, hBcj, rfl⟩
    · rw [hφ1 i hi1, hφ1 j hj1] at he; exact hi.inj i j Bi Bj hBi' hBj' fi fj he
    · rw [hφ1 i hi1, hφ2 j hj1] at he; have := hold i Bi hBi'; have := hnew _ _ hBcj; omega
    · rw [hφ2 i hi1, hφ1 j hj1] at he; have := hold j Bj hBj'; have := hnew _ _ hBci; omega
    · rw [hφ2 i hi1, hφ2 j hj1] at he
      have := hic.inj _ _ Bci Bcj hBci hBcj fi fj he
      omega
end Go.Ev
