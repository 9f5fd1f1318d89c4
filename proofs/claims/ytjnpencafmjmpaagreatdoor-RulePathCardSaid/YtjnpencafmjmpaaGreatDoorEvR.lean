/- What a pure call's answer says of the machine. -/
import Derived.Test.YtjnpencafmjmpaaGreatDoorEvQ
set_option linter.unusedVariables false
namespace Go.Ev

theorem WP_sound {C : Cfg} (hC : CfgOK C) (hok : fnsOK C) {f : FuncId} {xs : List PV} {x : PV} (h : WP C f xs = some x) {F : Nat → Prop} {w : World} {argv : Array Value}
    (hF : ∀ b, F b → b < w.heap.size) (hr : repL F w xs argv.toList) : Calls C.P f argv w (OraPost F w x) := by
  unfold WP at h
  split at h
  · rename_i rr Hc hrr
    have ic : Inv ⟨F, fun _ => 0⟩ w [] := ⟨hF, fun id B hB => by simp at hB, fun i j Bi Bj hBi => by simp at hBi⟩
    have hcc := W_sound hC hok f _ [] rr Hc hrr ⟨F, fun _ => 0⟩ w argv ic (repLA_map.2 hr)
    refine hcc.mono ?_
    rintro e w' ⟨v, gc', rfl, j1, j2, j3⟩
    have hu := fzUp_mark (ids Hc deep rr) Hc
    have jf := fz_inv j1 hu
    have je := fz_ext j1 hu
    have hr := frz_rep jf _ _ _ _ (frz_strict hu _ _ _ h fun id hid B' hB' => mark_fz _ _ _ _ hid hB') (repA_mono je j3)
    exact ⟨v, _, rfl, PExt.of_ext jf (j2.trans je), hr⟩
  · cases h
/-- Nothing that was there has turned. -/
theorem PExt.kept {F F' : Nat → Prop} {w w' : World} (h : PExt F w F' w') : w.keptBut w' (fun _ => False) := by
  refine ⟨h.os, h.output, fun i hi => ?_⟩
  rw [h.old i hi]
  split <;> rename_i h1 h2
  · cases h1.symm.trans h2; exact ⟨rfl, rfl, rfl, fun _ _ => rfl⟩
  · cases h1.symm.trans h2; exact .inr ⟨rfl, rfl⟩
  · rfl
theorem PExt.frozen {F F' : Nat → Prop} {w w' : World} (h : PExt F w F' w') {a : Addr} (ha : a.block < w.heap.size) : w'.frozen? a = w.frozen? a := by
  unfold World.frozen?
  rw [h.old _ ha]
/-- How a function ends. -/
def fin (C : Cfg) (fn : Func) : Option (Ex × St) → Option (AV × List ABlk)
  | some (.exit _, _) => none
  | some (_, S) => match evResults C fn S with
    | some x => some (x, S.H)
    | none => none
  | none => none
theorem W_fin {C : Cfg} {f : FuncId} {fn : Func} {c : Code} (h9 : C.md f < 9) (hf : C.P.funcs[f]? = some fn) (hc : fn.body = some c) (args : List AV) (H : List ABlk) :
    W C f args H = fin C fn (WC C (C.lv f) c ⟨args ++ List.replicate (fn.ntmps - args.length) (.p .und), H⟩) := by
  rw [W_eq h9 hf hc]
  rfl
theorem WC_run {C : Cfg} (k : Nat) {lv : List Bool} {c : Code} {S : St} {r : Ex × St} (h : evC C (evF C k) lv k c S = some r) : WC C lv c S = some r := WC_iff.2 ⟨k, h⟩
theorem WC_fin {C : Cfg} (k : Nat) {fn : Func} {lv : List Bool} {c : Code} {S : St} {r : AV × List ABlk} (h : fin C fn (evC C (evF C k) lv k c S) = some r) : fin C fn (WC C lv c S) = some r := by
  cases hx : evC C (evF C k) lv k c S with
  | none => rw [hx] at h; cases h
  | some q => rw [WC_run k hx, ← hx]; exact h
theorem evCall_own {C : Cfg} {st : Bool} {f : FuncId} (hO : ∀ xs, C.O f xs = none) {args : List AV} {H : List ABlk} (h1 : C.md f = 1) :
    evCall C (W C) st f args H = match mapO (frz false H deep) args with
      | none => none
      | some xs => match W C f (xs.map .p) [] with
        | none => none
        | some (r, Hc) => if (ownA r && Hc.all fun B => ownL B.cells) = true then some (shift H.length r, H ++ Hc.map (shiftB H.length)) else
          if (!st || (mapO (frz true H deep) args).isSome) = true then some (shift (if st then H else Go.Ev.mark (args.flatMap (ids H deep)) H).length r, (if st then H else Go.Ev.mark (args.flatMap (ids H deep)) H) ++ Hc.map (shiftB (if st then H else Go.Ev.mark (args.flatMap (ids H deep)) H).length)) else none := by
  unfold evCall
  rw [if_neg (by omega), if_neg (by omega)]
  cases hx : mapO (frz false H deep) args with
  | none => simp only; rw [if_neg (by omega)]
  | some xs =>
    simp only
    rw [hO xs]
    simp only
    rw [if_neg (fun h => by omega)]
    cases W C f (xs.map .p) [] with
    | none => rfl
    | some q =>
      obtain ⟨r, Hc⟩ := q
      simp only
      rw [if_pos (.inl h1)]
end Go.Ev
