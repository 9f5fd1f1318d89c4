/- An operation, as the calculus of walks has it. -/
import Derived.Test.YtjnpencafmjmpaaGreatDoorEvL
import Derived.Lib.MakeNoZero
set_option linter.unusedVariables false
set_option linter.unusedSimpArgs false
namespace Go.Ev
open Go.RowKit
variable {g : G} {w : World} {H : List ABlk} {C : Cfg} {call : CallE}

structure CfgOK (C : Cfg) : Prop where
  fn : ∀ f, C.md f < 9 → C.md f ≠ 6 → ∃ fn, C.P.funcs[f]? = some fn ∧ (fn.name == "runtime.NumGoroutine") = false ∧ fn.body.isSome = true
  ora : OraOK C
  nz : ∀ f, C.md f = 6 → ∃ fn e t, C.P.funcs[f]? = some fn ∧ (fn.name == "runtime.NumGoroutine") = false ∧ fn.body = none ∧ (Extern.findNext fn).isNone = true ∧ Extern.find fn = some (Extern.BytealgMakeNoZero.makeNoZero fn.params fn.resultTypes) ∧ fn.resultTypes = #[t] ∧ C.P.underlying t = some (.slice e)
  mixed : C.P.follows .mixedOrders = true

theorem mapO_opv {t : List AV} {a : Act} (ht : repLA g w H t a.tmps.toList) : ∀ {os : List Operand} {xs : List AV}, mapO (opv t) os = some xs → repLA g w H xs (os.map a.eval)
  | [], xs, h => by simp [mapO] at h; subst h; simp [repLA]
  | o :: os, xs, h => by
    simp only [mapO] at h
    cases ho : opv t o with
    | none => rw [ho] at h; cases h
    | some y =>
      rw [ho] at h
      simp only at h
      split at h
      · cases h
      · rename_i ys hys
        cases h
        exact ⟨opv_rep ht ho, mapO_opv ht hys⟩
theorem frz_false {H : List ABlk} : ∀ (k : Nat) (a : AV) (x : PV), frz true H k a = some x → frz false H k a = some x := by
  intro k
  induction k with
  | zero => intro a x h; cases a <;> simp only [frz] at h ⊢ <;> first | exact h | cases h
  | succ k ih =>
    intro a x h
    have lst : ∀ (cs : List AV) (xs : List PV), mapO (frz true H k) cs = some xs → mapO (frz false H k) cs = some xs := fun cs xs h1 => mapO_mono h1 fun c hc y hy => ih c y hy
    cases a with
    | p y => simp only [frz] at h ⊢; exact h
    | ms id ver off n sz =>
      simp only [frz] at h ⊢
      cases hB : H[id]? with
      | none => rw [hB] at h; cases h
      | some B =>
        rw [hB] at h
        simp only at h ⊢
        split at h
        · rename_i hc
          rw [if_pos ⟨hc.1, hc.2.1, .inl trivial⟩]
          cases hm : mapO (frz true H k) ((B.cells.drop off).take (n * sz)) with
          | none => rw [hm] at h; cases h
          | some cs => rw [hm] at h; rw [lst _ cs hm]; exact h
        · cases h
    | pt => simp [frz] at h
    | ip => simp [frz] at h
    | fn f a b =>
      simp only [frz] at h ⊢
      cases h1 : mapO (frz true H k) a with
      | none => rw [h1] at h; cases h
      | some xs => cases h2 : mapO (frz true H k) b with
        | none => rw [h1, h2] at h; cases h
        | some ys => rw [h1, h2] at h; rw [lst _ xs h1, lst _ ys h2]; exact h
    | agg cs =>
      simp only [frz] at h ⊢
      cases h1 : mapO (frz true H k) cs with
      | none => rw [h1] at h; cases h
      | some xs => rw [h1] at h; rw [lst _ xs h1]; exact h
    | tup cs =>
      simp only [frz] at h ⊢
      cases h1 : mapO (frz true H k) cs with
      | none => rw [h1] at h; cases h
      | some xs => rw [h1] at h; rw [lst _ xs h1]; exact h
theorem scalar_rep_all {F F' : Nat → Prop} {w w' : World} : ∀ n, (∀ x : PV, SizeOf.sizeOf x ≤ n → scalar x = true → ∀ v, rep F w x v → rep F' w' x v) ∧ (∀ xs : List PV, SizeOf.sizeOf xs ≤ n → scalarL xs = true → ∀ vs, repL F w xs vs → repL F' w' xs vs) := by
  intro n
  induction n with
  | zero =>
    refine ⟨fun x hx => ?_, fun xs hx => ?_⟩
    · cases x <;> simp at hx <;> omega
    · cases xs <;> simp at hx
  | succ n ih =>
    obtain ⟨ih1, ih2⟩ := ih
    refine ⟨fun x hx hs v h => ?_, fun xs hx hs vs h => ?_⟩
    · cases x with
      | sl m y cs =>
        simp only [scalar, List.isEmpty_iff] at hs
        subst hs
        simp only [rep] at h ⊢
        obtain ⟨A, cap, rfl, h1, h2, h3, _⟩ := h
        exact ⟨A, cap, rfl, h1, h2, h3, .inl trivial⟩
      | fn => simp [scalar] at hs
      | agg cs =>
        simp at hx
        simp only [scalar] at hs
        simp only [rep] at h ⊢
        obtain ⟨vs, rfl, hr⟩ := h
        exact ⟨vs, rfl, ih2 cs (by omega) hs _ hr⟩
      | tup cs =>
        simp at hx
        simp only [scalar] at hs
        simp only [rep] at h ⊢
        obtain ⟨vs, rfl, hr⟩ := h
        exact ⟨vs, rfl, ih2 cs (by omega) hs _ hr⟩
      | _ => first | (simp only [rep] at h ⊢; done) | (simp only [rep] at h ⊢; exact h)
    · match xs, vs, h with
      | [], [], _ => simp [repL]
      | x :: xs, v :: vs, h =>
        simp at hx
        simp only [scalarL, Bool.and_eq_true] at hs
        simp only [repL] at h ⊢
        exact ⟨ih1 x (by omega) hs.1 v h.1, ih2 xs (by omega) hs.2 vs h.2⟩
theorem scalar_rep {F F' : Nat → Prop} {w w' : World} {x : PV} (hs : scalar x = true) {v : Value} (h : rep F w x v) : rep F' w' x v := (scalar_rep_all (SizeOf.sizeOf x)).1 x (Nat.le_refl _) hs v h

theorem repA_own_all {F F' : Nat → Prop} {φ : Nat → Nat} {w : World} {H : List ABlk} : ∀ n, (∀ x : AV, SizeOf.sizeOf x ≤ n → ownA x = true → ∀ v, repA ⟨F, φ⟩ w H x v → repA ⟨F', φ⟩ w H x v) ∧ (∀ xs : List AV, SizeOf.sizeOf xs ≤ n → ownL xs = true → ∀ vs, repLA ⟨F, φ⟩ w H xs vs → repLA ⟨F', φ⟩ w H xs vs) := by
  intro n
  induction n with
  | zero =>
    refine ⟨fun x hx => ?_, fun xs hx => ?_⟩
    · cases x <;> simp at hx <;> omega
    · cases xs <;> simp at hx
  | succ n ih =>
    obtain ⟨ih1, ih2⟩ := ih
    refine ⟨fun x hx hs v h => ?_, fun xs hx hs vs h => ?_⟩
    · cases x with
      | p x => simp only [ownA] at hs; simp only [repA] at h ⊢; exact scalar_rep hs h
      | ms => simp only [repA] at h ⊢; exact h
      | pt => simp only [repA] at h ⊢; exact h
      | ip => simp [ownA] at hs
      | fn => simp [ownA] at hs
      | agg cs =>
        simp at hx
        simp only [ownA] at hs
        simp only [repA] at h ⊢
        obtain ⟨vs, rfl, hr⟩ := h
        exact ⟨vs, rfl, ih2 cs (by omega) hs _ hr⟩
      | tup cs =>
        simp at hx
        simp only [ownA] at hs
        simp only [repA] at h ⊢
        obtain ⟨vs, rfl, hr⟩ := h
        exact ⟨vs, rfl, ih2 cs (by omega) hs _ hr⟩
    · match xs, vs, h with
      | [], [], _ => simp [repLA]
      | x :: xs, v :: vs, h =>
        simp at hx
        simp only [ownL, Bool.and_eq_true] at hs
        simp only [repLA] at h ⊢
        exact ⟨ih1 x (by omega) hs.1 v h.1, ih2 xs (by omega) hs.2 vs h.2⟩
/-- An answer that names blocks of its own alone does not hang on what it was handed. -/
theorem own_drop {F F1 : Nat → Prop} {gc' : G} {w w' : World} {Hc : List ABlk} (hsub : ∀ b, F b → F1 b) (hF1 : ∀ b, F b → b < w.heap.size) (j1 : Inv gc' w' Hc) (j2 : Ext ⟨F1, fun _ => 0⟩ w [] gc' w' Hc)
    (hown : (Hc.all fun B => ownL B.cells) = true) :
    ∃ g2 : G, Inv g2 w' Hc ∧ Ext ⟨F, fun _ => 0⟩ w [] g2 w' Hc ∧ ∀ r v, ownA r = true → repA gc' w' Hc r v → repA g2 w' Hc r v := by
  have hnew : ∀ (id : Nat) (B : ABlk), Hc[id]? = some B → w.heap.size ≤ gc'.φ id := fun id B hB => by
    rcases j2.newφ (gc'.φ id) ⟨id, B, hB, rfl⟩ with ⟨id2, B2, h2, _⟩ | h'
    · simp at h2
    · exact h'
  refine ⟨⟨fun b => F b ∨ (gc'.F b ∧ w.heap.size ≤ b), gc'.φ⟩, ⟨fun b hb => ?_, fun id B hB => ?_, j1.inj⟩, ⟨fun b hb => .inl hb, fun b hb => j2.keep b (hsub b hb), fun id B hB => by simp at hB, fun b h1 h2 _ => ?_, j2.size, j2.os, j2.tape, j2.output, fun b hb => hb.imp id fun h => .inl h.2, j2.newφ⟩,
    fun r v hr h => (repA_own_all (SizeOf.sizeOf r)).1 r (Nat.le_refl _) hr v h⟩
  · rcases hb with hb | hb
    · exact Nat.lt_of_lt_of_le (hF1 b hb) j2.size
    · exact j1.F b hb.1
  · obtain ⟨c, e, fr, d1, d2, d3, d4, d5, d6⟩ := j1.blk id B hB
    have ho := List.all_eq_true.1 hown B (List.mem_of_getElem? hB)
    refine ⟨c, e, fr, d1, d2, d3, (repA_own_all (SizeOf.sizeOf B.cells)).2 _ (Nat.le_refl _) ho _ d4, d5, fun hz => .inr ⟨d6.1 hz, hnew id B hB⟩, fun h => ?_⟩
    rcases h with h | h
    · have h1 : gc'.φ id < w.heap.size := hF1 _ h
      have := hnew id B hB; omega
    · exact d6.2 h.1
  · by_cases h : F1 b
    · exact j2.keep b h
    · exact j2.out b h1 h fun ⟨id, B, hB, _⟩ => by simp at hB
/-- What a pure call tells, from whatever marks it is called. -/
theorem tell_sound {f : FuncId} {ok st : Bool} {args : List AV} {xs : List PV} {x : PV} {r : AV} {H' H1 : List ABlk} {argv : Array Value} (hi : Inv g w H) (ha : repLA g w H args argv.toList)
    (hxs : mapO (frz false H deep) args = some xs) (hok : ok = (!st || (mapO (frz true H deep) args).isSome)) (hH1 : H1 = (if st then H else mark (args.flatMap (ids H deep)) H))
    (ht : tell ok H H1 x = some (r, H')) (hcall : ∀ F, (∀ b, F b → b < w.heap.size) → repL F w xs argv.toList → Calls C.P f argv w (OraPost F w x)) : Calls C.P f argv w (CallPost g w H r H') := by
  have hu := fzUp_mark (args.flatMap (ids H deep)) H
  have hmx : repL (gFz g (mark (args.flatMap (ids H deep)) H)).F w xs argv.toList := by
    refine frzL_rep (fz_inv hi hu) (as := args) ?_ (repLA_mono (fz_ext hi hu) ha)
    exact mapO_mono hxs fun a ha1 y hy => frz_strict hu _ _ _ hy fun id hid B' hB' => mark_fz _ _ _ _ (List.mem_flatMap.2 ⟨a, ha1, hid⟩) hB'
  unfold tell at ht
  split at ht
  · rename_i hs
    cases ht
    refine (hcall _ (fz_inv hi hu).F hmx).mono ?_
    rintro e w' ⟨v, F', rfl, hp, hr⟩
    have hp2 : PExt g.F w g.F w' := ⟨fun _ h => h, hp.old, hp.size, hp.os, hp.tape, hp.output, fun _ h => .inl h, fun b hb => Nat.lt_of_lt_of_le (hi.F b hb) hp.size⟩
    exact ⟨v, ⟨g.F, g.φ⟩, rfl, hp2.inv hi, hp2.ext hi, by simp only [repA]; exact scalar_rep hs hr⟩
  · split at ht
    · rename_i hk
      cases ht
      cases st with
      | false =>
        simp only [Bool.false_eq_true, if_false] at hH1
        subst hH1
        refine (hcall _ (fz_inv hi hu).F hmx).mono ?_
        rintro e w' ⟨v, F', rfl, hp, hr⟩
        exact ⟨v, ⟨F', (gFz g (mark (args.flatMap (ids H deep)) H)).φ⟩, rfl, hp.inv (fz_inv hi hu), (fz_ext hi hu).trans (hp.ext (fz_inv hi hu)), by simp only [repA]; exact hr⟩
      | true =>
        simp only [if_true] at hH1
        rw [hk] at hok
        simp only [Bool.not_true, Bool.false_or] at hok
        cases hys : mapO (frz true H deep) args with
        | none => rw [hys] at hok; cases hok
        | some ys =>
          have : ys = xs := by
            have := mapO_mono (f' := frz false H deep) hys fun a _ y hy => frz_false _ _ _ hy
            rw [hxs] at this; cases this; rfl
          subst this
          refine (hcall _ hi.F (frzL_rep hi hys ha)).mono ?_
          rintro e w' ⟨v, F', rfl, hp, hr⟩
          rw [hH1]
          exact ⟨v, ⟨F', g.φ⟩, rfl, hp.inv hi, hp.ext hi, by simp only [repA]; exact hr⟩
    · cases ht
theorem evCall_sound (hC : CfgOK C) (hcall : CallOK C call) {st : Bool} {f : FuncId} {args : List AV} {r : AV} {H' : List ABlk} {argv : Array Value} (hi : Inv g w H) (ha : repLA g w H args argv.toList) (h : evCall C call st f args H = some (r, H')) :
    C.md f < 9 ∧ Calls C.P f argv w (CallPost g w H r H') := by
  unfold evCall at h
  split at h
  · cases h
  rename_i h9
  refine ⟨by omega, ?_⟩
  split at h
  · exact hcall f args H r H' h g w argv hi ha
  split at h
  · split at h
    · exact hcall f args H r H' h g w argv hi ha
    · cases h
  rename_i xs hxs
  simp only at h
  obtain ⟨ok, hok⟩ : ∃ ok, ok = (!st || (mapO (frz true H deep) args).isSome) := ⟨_, rfl⟩
  obtain ⟨H1, hH1⟩ : ∃ H1, H1 = (if st = true then H else mark (args.flatMap (ids H deep)) H) := ⟨_, rfl⟩
  rw [← hok, ← hH1] at h
  have ic : ∀ F : Nat → Prop, (∀ b, F b → b < w.heap.size) → Inv ⟨F, fun _ => 0⟩ w [] := fun F hF => ⟨hF, fun id B hB => by simp at hB, fun i j Bi Bj hBi => by simp at hBi⟩
  split at h
  · rename_i q hq
    exact tell_sound hi ha hxs hok hH1 h fun F hF hr => hC.ora f xs q hq F w argv hF hr
  · split at h
    · rename_i hemp
      obtain ⟨x0, hx0⟩ : ∃ x0, xs = [.sl 0 x0 []] := by
        have := hemp.2
        unfold empty1 at this
        split at this
        · exact ⟨_, rfl⟩
        · cases this
      split at h
      · rename_i q1 H1' q2 H2' h1 h2
        split at h
        · rename_i hE
          refine tell_sound hi ha hxs hok hH1 h fun F hF hr => ?_
          subst hx0
          have hav : ∃ v, argv.toList = [v] ∧ rep F w (.sl 0 x0 []) v := by
            generalize argv.toList = l at hr
            match l, hr with
            | [v], hr => simp only [repL, and_true] at hr; exact ⟨v, rfl, hr⟩
            | [], hr => simp [repL] at hr
            | _ :: _ :: _, hr => simp [repL] at hr
          obtain ⟨v, hv, hvr⟩ := hav
          simp only [rep] at hvr
          obtain ⟨A, cap, rfl, _, _, hA, _⟩ := hvr
          have key : ∀ (b : Bool) (q : AV) (Hq : List ABlk), A.isNone = b → call f [.p (.nsl b)] [] = some (q, Hq) → isE0 q = true → Calls C.P f argv w (OraPost F w (.sl 0 true [])) := by
            intro b q Hq hb hq hE0
            have hcc := hcall f _ [] q Hq hq ⟨F, fun _ => 0⟩ w argv (ic F hF) (by rw [hv]; simp only [repLA, repA, rep, and_true]; exact ⟨A, cap, rfl, hA, hb⟩)
            refine hcc.mono ?_
            rintro e w' ⟨v, gc', rfl, j1, j2, j3⟩
            have hp := PExt.of_ext j1 j2
            refine ⟨v, gc'.F, rfl, hp, ?_⟩
            unfold isE0 at hE0
            split at hE0
            · simp only [repA, rep] at j3 ⊢
              obtain ⟨A', cap', rfl, h0, hn⟩ := j3
              have : A' = none := by cases A' <;> simp at hn; rfl
              have := h0 this
              exact ⟨A', cap', rfl, by omega, fun _ => this, h0, .inl trivial⟩
            · simp only [repA, rep] at j3 ⊢
              obtain ⟨A', cap', rfl, _, h1, h0, _⟩ := j3
              have := h1 trivial
              exact ⟨A', cap', rfl, by omega, fun _ => this, h0, .inl trivial⟩
            · cases hE0
          cases hn : A.isNone with
          | true => exact key true q1 H1' hn h1 hE.1
          | false => exact key false q2 H2' hn h2 hE.2
        · cases h
      · cases h
    split at h
    · cases h
    rename_i rr Hc hrr
    split at h
    · split at h
      · rename_i hown
        cases h
        simp only [Bool.and_eq_true] at hown
        have hu := fzUp_mark (args.flatMap (ids H deep)) H
        have hmx : repL (gFz g (mark (args.flatMap (ids H deep)) H)).F w xs argv.toList := by
          refine frzL_rep (fz_inv hi hu) (as := args) ?_ (repLA_mono (fz_ext hi hu) ha)
          exact mapO_mono hxs fun a ha1 y hy => frz_strict hu _ _ _ hy fun id hid B' hB' => mark_fz _ _ _ _ (List.mem_flatMap.2 ⟨a, ha1, hid⟩) hB'
        have hcc := hcall f _ [] rr Hc hrr ⟨(gFz g (mark (args.flatMap (ids H deep)) H)).F, fun _ => 0⟩ w argv (ic _ (fz_inv hi hu).F) (repLA_map.2 hmx)
        refine hcc.mono ?_
        rintro e w' ⟨v, gc', rfl, j1, j2, j3⟩
        obtain ⟨g2, l1, l2, l3⟩ := own_drop (F := g.F) (fz_ext hi hu).F hi.F j1 j2 hown.2
        obtain ⟨k1, k2, k3⟩ := join_ok hi l1 l2
        exact ⟨v, _, rfl, k1, k2, k3 _ _ (l3 _ _ hown.1 j3)⟩
      split at h
      · rename_i hk
        cases h
        -- the marks under which it is called
        have hmk : ∃ g1, Inv g1 w H1 ∧ Ext g w H g1 w H1 ∧ repL g1.F w xs argv.toList := by
          cases st with
          | true =>
            simp only [if_true] at hH1
            rw [hk] at hok
            simp only [Bool.not_true, Bool.false_or] at hok
            cases hys : mapO (frz true H deep) args with
            | none => rw [hys] at hok; cases hok
            | some ys =>
              have : ys = xs := by
                have := mapO_mono (f' := frz false H deep) hys fun a _ y hy => frz_false _ _ _ hy
                rw [hxs] at this; cases this; rfl
              subst this
              rw [hH1]
              exact ⟨g, hi, Ext.refl _ _ _, frzL_rep hi hys ha⟩
          | false =>
            simp only [Bool.false_eq_true, if_false] at hH1; subst hH1
            have hu := fzUp_mark (args.flatMap (ids H deep)) H
            refine ⟨_, fz_inv hi hu, fz_ext hi hu, frzL_rep (fz_inv hi hu) (as := args) ?_ (repLA_mono (fz_ext hi hu) ha)⟩
            exact mapO_mono hxs fun a ha1 y hy => frz_strict hu _ _ _ hy fun id hid B' hB' => mark_fz _ _ _ _ (List.mem_flatMap.2 ⟨a, ha1, hid⟩) hB'
        obtain ⟨g1, i1, e1, r1⟩ := hmk
        have hcc := hcall f _ [] rr Hc hrr ⟨g1.F, fun _ => 0⟩ w argv (ic _ i1.F) (repLA_map.2 r1)
        refine hcc.mono ?_
        rintro e w' ⟨v, gc', rfl, j1, j2, j3⟩
        obtain ⟨k1, k2, k3⟩ := join_ok i1 j1 j2
        exact ⟨v, _, rfl, k1, e1.trans k2, k3 _ _ j3⟩
      · cases h
    · split at h
      · rename_i x hx
        refine tell_sound hi ha hxs hok hH1 h fun F hF hr => ?_
        have hcc := hcall f _ [] rr Hc hrr ⟨F, fun _ => 0⟩ w argv (ic F hF) (repLA_map.2 hr)
        refine hcc.mono ?_
        rintro e w' ⟨v, gc', rfl, j1, j2, j3⟩
        have hu := fzUp_mark (ids Hc deep rr) Hc
        have jf := fz_inv j1 hu
        have je := fz_ext j1 hu
        have hr := frz_rep jf _ _ _ _ (frz_strict hu _ _ _ hx fun id hid B' hB' => mark_fz _ _ _ _ hid hB') (repA_mono je j3)
        exact ⟨v, _, rfl, PExt.of_ext jf (j2.trans je), hr⟩
      · cases h
theorem calleeOf_rep {x : AV} {f : FuncId} {as bs : List AV} {v : Value} (h : calleeOf x = some (f, as, bs)) (hx : repA g w H x v) : ∃ a b, v = .func (.func f) a b ∧ repLA g w H as a.toList ∧ repLA g w H bs b.toList := by
  unfold calleeOf at h
  split at h
  · cases h
    simp only [repA, rep] at hx
    obtain ⟨a, b, rfl, h1, h2⟩ := hx
    exact ⟨a, b, rfl, repLA_map.2 h1, repLA_map.2 h2⟩
  · cases h
    simp only [repA] at hx
    obtain ⟨a, b, rfl, h1, h2⟩ := hx
    exact ⟨a, b, rfl, h1, h2⟩
  · cases h
theorem optO_rep {t : List AV} {a : Act} (ht : repLA g w H t a.tmps.toList) {o : Option Operand} {x : Option AV} (h : optO (opv t) o = some x) : optR g w H x (o.map a.eval) := by
  cases o with
  | none => simp [optO] at h; subst h; simp [optR]
  | some o =>
    simp only [optO] at h
    split at h
    · rename_i y hy; cases h; simp only [Option.map_some, optR]; exact opv_rep ht hy
    · cases h
section
variable {P : Program} {o : Oper} {a : Act} {K : Act → World → Prop} {Q : Exit → Act → World → Prop}
theorem goes_value {m : Sem Value} {v : Value} {w' : World} (h : m.run P w = .ok v w') (hk : K (a.put o.dst v) w') : o.upon P a K Q ((do pure (.value (← m)) : Sem Next).run P w) := by
  simp only [Sem.run_bind, h, Result.andThen_ok, Sem.run_pure]
  exact hk
end
theorem ret1_some {H H' : List ABlk} {x : AV} {m : Option AV} (h : ret1 H m = some (x, H')) : m = some x ∧ H' = H := by
  unfold ret1 at h
  split at h
  · cases h; exact ⟨rfl, rfl⟩
  · cases h
/-- An operation that only tells a value. -/
theorem same_value {P : Program} {o : Oper} {a : Act} {K : Act → World → Prop} {Q : Exit → Act → World → Prop} {x : AV} {m : Sem Value} (hi : Inv g w H) (h : ∃ v, m.run P w = .ok v w ∧ repA g w H x v)
    (hK : ∀ v w' g', Inv g' w' H → Ext g w H g' w' H → repA g' w' H x v → K (a.put o.dst v) w') : o.upon P a K Q ((do pure (.value (← m)) : Sem Next).run P w) := by
  obtain ⟨v, h1, h2⟩ := h
  exact goes_value h1 (hK v w g hi (Ext.refl _ _ _) h2)
theorem new_value {P : Program} {o : Oper} {a : Act} {K : Act → World → Prop} {Q : Exit → Act → World → Prop} {x : AV} {H' : List ABlk} {m : Sem Value} (h : ∃ v w' g', m.run P w = .ok v w' ∧ Inv g' w' H' ∧ Ext g w H g' w' H' ∧ repA g' w' H' x v)
    (hK : ∀ v w' g', Inv g' w' H' → Ext g w H g' w' H' → repA g' w' H' x v → K (a.put o.dst v) w') : o.upon P a K Q ((do pure (.value (← m)) : Sem Next).run P w) := by
  obtain ⟨v, w', g', h1, h2, h3, h4⟩ := h
  exact goes_value h1 (hK v w' g' h2 h3 h4)
theorem evBuiltin_run {st : Bool} {b : Builtin} {ats : Array TypeId} {args : List AV} {z : AV} {H' : List ABlk} {argv : Array Value} {ty : TypeId} (hi : Inv g w H) (ha : repLA g w H args argv.toList) (h : evBuiltin C st b ats args H = some (z, H')) :
    ∃ m : Sem Value, (∀ cs, builtin b ats ty cs argv = (do pure (.value (← m)) : Sem Next)) ∧ ∃ v w' g', m.run C.P w = .ok v w' ∧ Inv g' w' H' ∧ Ext g w H g' w' H' ∧ repA g' w' H' z v := by
  unfold evBuiltin at h
  have two : ∀ {x y : AV}, repLA g w H [x, y] argv.toList → ∃ u v, argv = #[u, v] ∧ repA g w H x u ∧ repA g w H y v := by
    intro x y hr
    obtain ⟨l⟩ := argv
    match l, hr with
    | [u, v], hr => simp only [repLA, and_true] at hr; exact ⟨u, v, rfl, hr.1, hr.2⟩
    | [], hr => simp [repLA] at hr
    | [_], hr => simp [repLA] at hr
    | _ :: _ :: _ :: _, hr => simp [repLA] at hr
  have one : ∀ {x : AV}, repLA g w H [x] argv.toList → ∃ u, argv = #[u] ∧ repA g w H x u := by
    intro x hr
    obtain ⟨l⟩ := argv
    match l, hr with
    | [u], hr => simp only [repLA, and_true] at hr; exact ⟨u, rfl, hr⟩
    | [], hr => simp [repLA] at hr
    | _ :: _ :: _, hr => simp [repLA] at hr
  split at h
  · obtain ⟨u, v, rfl, h1, h2⟩ := two ha
    exact ⟨_, fun _ => rfl, evAppend_run hi h h1 h2⟩
  · obtain ⟨u, v, rfl, h1, h2⟩ := two ha
    obtain ⟨r, w', k1, k2, k3, k4⟩ := evCopy_run (ty := ty) hi h h1 h2
    exact ⟨_, fun _ => rfl, r, w', g, k1, k2, k3, k4⟩
  · obtain ⟨u, rfl, h1⟩ := one ha
    split at h
    · rename_i r hr
      cases h
      obtain ⟨q, k1, k2⟩ := evLen_run (ty := ty) hr h1
      exact ⟨_, fun _ => rfl, q, w, g, k1, hi, Ext.refl _ _ _, by simp only [repA]; exact k2⟩
    · cases h
  · obtain ⟨u, v, rfl, h1, h2⟩ := two ha
    split at h
    · rename_i r hr
      cases h
      obtain ⟨q, k1, k2⟩ := max2_run (P := C.P) (ats := ats) (ty := ty) hr h1 h2
      exact ⟨_, fun _ => rfl, q, w, g, k1, hi, Ext.refl _ _ _, k2⟩
    · cases h
  · obtain ⟨u, v, rfl, h1, h2⟩ := two ha
    split at h
    · rename_i r hr
      cases h
      obtain ⟨q, k1, k2⟩ := min2_run (P := C.P) (ats := ats) (ty := ty) hr h1 h2
      exact ⟨_, fun _ => rfl, q, w, g, k1, hi, Ext.refl _ _ _, k2⟩
    · cases h
  · cases h

theorem digits_get : ∀ (n t : Nat) (acc : Array Value) (i : Nat), i < acc.size + n → (∀ j, j < acc.size → ∃ k, acc[j]? = some (.int .u8 k)) → ∃ k, (Extern.BytealgMakeNoZero.digits n t acc)[i]? = some (.int .u8 k)
  | 0, t, acc, i, hi, h => h i (by simpa using hi)
  | n + 1, t, acc, i, hi, h => by
    simp only [Extern.BytealgMakeNoZero.digits]
    refine digits_get n _ _ i (by simp; omega) fun j hj => ?_
    rw [Array.getElem?_push]
    split
    · exact ⟨_, rfl⟩
    · rename_i hne; simp at hj; exact h j (by omega)
theorem noZero_run {P : Program} (w : World) (ps : Array TypeId) (t e : TypeId) (ht : P.underlying t = some (.slice e)) (n : Nat) (hn : n ≤ 281474976710656) :
    ∃ (cs : Array Value) (k : Nat), (Extern.BytealgMakeNoZero.makeNoZero ps #[t] #[.int .i64 n]).run P w = .ok (.slice (some ⟨w.heap.size, 0, none⟩) n cs.size) (pushB { w with drawn := k } (.cells cs e)) ∧ n ≤ cs.size ∧ ∀ i, i < cs.size → ∃ k, cs[i]? = some (.int .u8 k) := by
  have hdef : Extern.BytealgMakeNoZero.makeNoZero ps #[t] #[.int .i64 n] =
      (do
        let .slice elem ← underlying t | stuck "bytealg.MakeNoZero: slice type expected"
        if (n : Int) < 0 || (n : Int) > 2 ^ 48 then runtimePanic (.error "makeslice: len out of range")
        let cap ← choose (.appendCap (n : Int).toNat 0 elem)
        askRoom cap
        let bytes ← choose (.extern "internal/bytealg.MakeNoZero.bytes" 0)
        let a ← newRow elem (Extern.BytealgMakeNoZero.digits cap bytes #[])
        pure (.slice (some a) (n : Int).toNat cap)) := rfl
  have hforce : (Question.appendCap n 0 e).forced = false := rfl
  have hforce2 : (Question.extern "internal/bytealg.MakeNoZero.bytes" 0).forced = false := rfl
  obtain ⟨cap, hcap, hge⟩ : ∃ q, (Question.appendCap n 0 e).cut (w.tape w.drawn (.appendCap n 0 e)) = q ∧ n ≤ q := ⟨_, rfl, by simp only [Question.cut]; omega⟩
  obtain ⟨bt, hbt⟩ : ∃ q, (Question.extern "internal/bytealg.MakeNoZero.bytes" 0).cut (w.tape (w.drawn + 1) (.extern "internal/bytealg.MakeNoZero.bytes" 0)) = q := ⟨_, rfl⟩
  have hsz : (Extern.BytealgMakeNoZero.digits cap bt #[]).size = cap := by rw [Lib.size_digits]; simp
  refine ⟨Extern.BytealgMakeNoZero.digits cap bt #[], w.drawn + 1 + 1, ?_, by rw [hsz]; exact hge, fun i hi => digits_get cap bt #[] i (by rw [hsz] at hi; simpa using hi) (by simp)⟩
  rw [hdef, hsz]
  simp only [Sem.run_bind, run_underlying ht, Result.andThen_ok]
  rw [if_neg (by simp; omega)]
  simp only [Sem.run_bind, Sem.run_pure, run_choose, Int.toNat_natCast, hforce, hforce2, Bool.false_eq_true, if_false, Result.andThen_ok, hcap, hbt, run_askRoom, newRow, run_newObj]
  rfl
theorem evOp_sound (hC : CfgOK C) (hcall : CallOK C call) {st : Bool} {t : List AV} {a : Act} {o : Oper} {x : AV} {H' : List ABlk} (hi : Inv g w H) (ht : repLA g w H t a.tmps.toList) (h : evOp C call st (opv t) H o = some (x, H'))
    (K : Act → World → Prop) (Q : Exit → Act → World → Prop) (hK : ∀ v w' g', Inv g' w' H' → Ext g w H g' w' H' → repA g' w' H' x v → K (a.put o.dst v) w') : o.wp C.P a w K Q := by
  obtain ⟨dst, op, type, pos, after, guard⟩ := o
  have E := fun o x => opv_rep (g := g) (w := w) (H := H) (t := t) (a := a) ht (o := o) (x := x)
  unfold Oper.wp
  cases op <;> simp only [evOp] at h <;> try (cases h; done)
  case move y =>
    obtain ⟨h1, rfl⟩ := ret1_some h
    exact hK _ w g hi (Ext.refl _ _ _) (E _ _ h1)
  case assign y =>
    obtain ⟨h1, rfl⟩ := ret1_some h
    exact hK _ w g hi (Ext.refl _ _ _) (E _ _ h1)
  case pick c y z =>
    split at h
    · rename_i b u v h1 h2 h3
      cases h
      have hc := E _ _ h1
      simp only [repA, rep] at hc
      simp only [execOp, hc, asBool, Sem.run_bind, Sem.run_pure, Result.andThen_ok]
      refine hK _ w g hi (Ext.refl _ _ _) ?_
      cases b
      · exact E _ _ h3
      · exact E _ _ h2
    · cases h
  case alloc e =>
    split at h
    · rename_i z hz
      cases h
      exact new_value (evAlloc_run hi hz) hK
    · cases h
  case box e y =>
    split at h
    · cases h
    rename_i u hu
    split at h
    · rename_i cs hcs
      cases h
      exact new_value (evBox_run hi (E _ _ hu) hcs) hK
    · cases h
  case build t ps =>
    split at h
    · cases h
    rename_i qs hqs
    obtain ⟨h1, rfl⟩ := ret1_some h
    exact same_value hi (evBuild_run h1 (parts_rep E hqs)) hK
  case buildSlice t n ps =>
    split at h
    · cases h
    rename_i qs hqs
    exact new_value (evBuildSlice_run hi h (parts_rep E hqs)) hK
  case load t y =>
    split at h
    · cases h
    rename_i u hu
    obtain ⟨h1, rfl⟩ := ret1_some h
    exact same_value hi (evLoad_run hi h1 (E _ _ hu)) hK
  case store t y z =>
    split at h
    · rename_i u v hu hv
      split at h
      · rename_i H2 h2
        cases h
        obtain ⟨w', k1, k2, k3⟩ := evStore_run (P := C.P) hi h2 (E _ _ hu) (E _ _ hv)
        simp only [execOp, Sem.run_bind, k1, Result.andThen_ok, Sem.run_pure]
        exact hK _ w' g k2 k3 (by simp [repA, rep])
      · cases h
    · cases h
  case nilCheck y =>
    split at h
    · cases h
    rename_i u hu
    obtain ⟨h1, rfl⟩ := ret1_some h
    have hr := E _ _ hu
    unfold evNilCheck at h1
    split at h1
    · cases h1
      have hr' := hr
      simp only [repA] at hr'
      obtain ⟨A, hA, _⟩ := hr'
      simp only [execOp, hA, Sem.run_pure]
      exact hK _ w g hi (Ext.refl _ _ _) (by rw [hA] at hr; exact hr)
    · cases h1
      have hr' := hr
      simp only [repA] at hr'
      obtain ⟨b, off, hA, _⟩ := hr'
      simp only [execOp, hA, Sem.run_pure]
      exact hK _ w g hi (Ext.refl _ _ _) (by rw [hA] at hr; exact hr)
    · cases h1
      have hr' := hr
      simp only [repA, rep] at hr'
      obtain ⟨as, bs, hA, _⟩ := hr'
      simp only [execOp, hA, Sem.run_pure]
      exact hK _ w g hi (Ext.refl _ _ _) (by rw [hA] at hr; exact hr)
    · cases h1
      have hr' := hr
      simp only [repA] at hr'
      obtain ⟨as, bs, hA, _⟩ := hr'
      simp only [execOp, hA, Sem.run_pure]
      exact hK _ w g hi (Ext.refl _ _ _) (by rw [hA] at hr; exact hr)
    · cases h1
  case binOp op t y z yt =>
    split at h
    · rename_i u v hu hv
      obtain ⟨h1, rfl⟩ := ret1_some h
      exact same_value hi (evBin_run y z h1 (E _ _ hu) (E _ _ hv)) hK
    · cases h
  case unOp op t y =>
    split at h
    · rename_i u hu
      obtain ⟨h1, rfl⟩ := ret1_some h
      exact same_value hi (evUn_run h1 (E _ _ hu)) hK
    · cases h
  case convert s d y =>
    split at h
    · rename_i u hu
      exact new_value (evConv_run hi h (E _ _ hu)) hK
    · cases h
  case makeFunc f y z =>
    split at h
    · rename_i xs ys hx hy
      cases h
      refine hK (.func f (y.map a.eval) (z.map a.eval)) w g hi (Ext.refl _ _ _) (mkFn_rep ?_ ?_)
      · rw [Array.toList_map]; exact mapO_opv ht hx
      · rw [Array.toList_map]; exact mapO_opv ht hy
    · cases h
  case makeSlice t l c =>
    split at h
    · rename_i u v hu hv
      exact new_value (evMakeSlice_run hi h (E _ _ hu) (E _ _ hv)) hK
    · cases h
  case slice t y lo hh mx =>
    split at h
    · rename_i u l m n hu hl hm hn
      obtain ⟨h1, rfl⟩ := ret1_some h
      exact same_value hi (evSlice_run h1 (E _ _ hu) (optO_rep ht hl) (optO_rep ht hm) (optO_rep ht hn)) hK
    · cases h
  case fieldAddr s y i =>
    split at h
    · rename_i u hu
      obtain ⟨h1, rfl⟩ := ret1_some h
      exact same_value hi (evFieldAddr_run h1 (E _ _ hu)) hK
    · cases h
  case field s y i =>
    split at h
    · rename_i u hu
      obtain ⟨h1, rfl⟩ := ret1_some h
      exact same_value hi (evField_run h1 (E _ _ hu)) hK
    · cases h
  case indexAddr t y i =>
    split at h
    · rename_i u v hu hv
      obtain ⟨h1, rfl⟩ := ret1_some h
      exact same_value hi (evIndexAddr_run h1 (E _ _ hu) (E _ _ hv)) hK
    · cases h
  case index t y i =>
    split at h
    · rename_i u v hu hv
      obtain ⟨h1, rfl⟩ := ret1_some h
      exact same_value hi (evIndex_run h1 (E _ _ hu) (E _ _ hv)) hK
    · cases h
  case extract y i =>
    split at h
    · rename_i u hu
      obtain ⟨h1, rfl⟩ := ret1_some h
      exact same_value hi (evExtract_run h1 (E _ _ hu)) hK
    · cases h
  case call c =>
    obtain ⟨callee, cargs, cats⟩ := c
    split at h
    · cases h
    rename_i args hargs
    have hra : repLA g w H args (cargs.map a.eval).toList := by rw [Array.toList_map]; exact mapO_opv ht hargs
    split at h
    · rename_i b hb
      simp only at hb; subst hb
      obtain ⟨m, hm, hv⟩ := evBuiltin_run (ty := type) hi hra h
      simp only [execOp, resolve, Sem.run_bind, Sem.run_pure, Result.andThen_ok, invoke, hm]
      have := new_value (P := C.P) (o := ⟨dst, .call ⟨.builtin b, cargs, cats⟩, type, pos, after, guard⟩) (a := a) (K := K) (Q := Q) hv hK
      simpa only [Sem.run_bind, Sem.run_pure] using this
    · rename_i f hf
      simp only at hf; subst hf
      split at h
      · cases h
      rename_i gv hg
      split at h
      · cases h
      rename_i k as bs hk
      obtain ⟨av, bv, hav, ra, rb⟩ := calleeOf_rep hk (E _ _ hg)
      have hall : repLA g w H (as ++ args ++ bs) (av ++ cargs.map a.eval ++ bv).toList := by
        simp only [Array.toList_append]
        exact repLA_append (repLA_append ra hra) rb
      split at h
      · rename_i h6
        obtain ⟨fn, e, ty, hfn, hnm, hbody, hnx, hfd, hrt, hty⟩ := hC.nz k h6
        unfold evNoZero at h
        split at h
        case h_2 => cases h
        case h_1 n hargs2 =>
        split at h
        case isFalse => cases h
        case isTrue hcn =>
        cases h
        have hav2 : av ++ cargs.map a.eval ++ bv = #[.int .i64 n] := by
          generalize hq : av ++ cargs.map a.eval ++ bv = q at hall
          rw [hargs2] at hall
          obtain ⟨l⟩ := q
          match l, hall with
          | [u], hall => simp only [repLA, repA, rep, and_true] at hall; rw [hall]
          | [], hall => simp [repLA] at hall
          | _ :: _ :: _, hall => simp [repLA] at hall
        obtain ⟨m, rfl⟩ := Int.eq_ofNat_of_zero_le hcn.2.1
        obtain ⟨cs, dk, hrun, hsz, hcell⟩ := noZero_run (P := C.P) w fn.params ty e hty m (by omega)
        simp only [Int.toNat_natCast] at hK
        have hrun2 : (execOp a.eval ⟨dst, .call ⟨.value f, cargs, cats⟩, type, pos, after, guard⟩).run C.P w = .ok (.value (.slice (some ⟨w.heap.size, 0, none⟩) m cs.size)) (pushB { w with drawn := dk } (.cells cs e)) := by
          have hnx2 : Extern.findNext fn = none := by cases hq : Extern.findNext fn with
            | none => rfl
            | some _ => rw [hq] at hnx; cases hnx
          simp only [execOp, resolve, hav, Deferred.ofValue, Sem.run_bind, Sem.run_pure, Result.andThen_ok, invoke, callFunc, run_program, hfn, hnm, Bool.false_eq_true, if_false, hbody, Option.isNone_none, if_true, run_mark, hnx2, hfd, hav2, hrt]
          rw [hrun]
          rfl
        rw [hrun2]
        have hrep : repLA g { w with drawn := dk } H (List.replicate m (.p .u8u)) (cs.toList.take m) := by
          rw [repLA_iff]
          refine ⟨by simp; omega, fun i x hx => ?_⟩
          rw [List.getElem?_replicate] at hx
          split at hx
          · rename_i hlt
            cases hx
            obtain ⟨kk, hk2⟩ := hcell i (by omega)
            exact ⟨_, by rw [List.getElem?_take, if_pos hlt, Array.getElem?_toList]; exact hk2, by simp only [repA, rep]; exact ⟨kk, rfl⟩⟩
          · cases hx
        refine hK _ _ _ (new_inv (drawn_inv hi dk) cs e (0, 0) (by intro j _; simp) 0 _ (by simpa using hsz) (by simpa using hrep) (by simp [AV.isCell])) ((drawn_ext g w H dk).trans (new_ext (drawn_inv hi dk) _ _)) ?_
        simp only [repA]
        exact ⟨_, _, rfl, by simpa using hsz, _, by simp; rfl, by simp, fun _ => ⟨.inr (by simp [gNew]), cs, e, (0, 0), by simp [gNew, pushB_get], by simp⟩⟩
      obtain ⟨h9, hcs⟩ := evCall_sound hC hcall hi hall h
      obtain ⟨fn, hfn, hnm, hbody⟩ := hC.fn k h9 (by assumption)
      have hrun : (execOp a.eval ⟨dst, .call ⟨.value f, cargs, cats⟩, type, pos, after, guard⟩).run C.P w = .ok (.enter k (av ++ cargs.map a.eval ++ bv)) w := by
        simp only [execOp, resolve, hav, Deferred.ofValue, Sem.run_bind, Sem.run_pure, Result.andThen_ok, invoke, callFunc, run_program, hfn, hnm, Bool.false_eq_true, if_false]
        have : fn.body.isNone = false := by cases hb : fn.body with
          | none => simp [hb] at hbody
          | some _ => rfl
        simp only [this, Bool.false_eq_true, if_false, Sem.run_pure]
      rw [hrun]
      refine hcs.mono ?_
      rintro e w' ⟨v, g', rfl, j1, j2, j3⟩
      exact hK v w' g' j1 j2 j3
    · cases h
end Go.Ev
