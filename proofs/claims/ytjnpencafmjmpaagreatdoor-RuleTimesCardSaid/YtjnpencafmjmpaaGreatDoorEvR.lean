/- What a pure call's answer says of the machine. -/
import Derived.Test.YtjnpencafmjmpaaGreatDoorEvQ
set_option linter.unusedVariables false
namespace Go.Ev

theorem WP_sound {C : Cfg} (hC : CfgOK C) (hok : fnsOK C) {f : FuncId} {xs : List PV} {x : PV} (h : WP C f xs = some x) {F : Nat → Prop} {w : World} {argv : Array Value}
    (hF : ∀ b, F b → b < w.heap.size) (hr : repL F w xs argv.toList) : Calls C.P f argv w (OraPost F w x) := by
  unfold WP at h
  split at h
  · rename_i rr Hc hrr
    have ic : Inv ⟨F, fun _ => 0⟩ w [] := ⟨hF, fun id B hB => by simp at hB, fun i j Bi Bj hBi => by simp at hBi⟩
    have hcc := W_sound hC hok f _ [] rr Hc hrr ⟨F, fun _ => 0⟩ w argv ic (repLA_map.2 hr)
    refine hcc.mono ?_
    rintro e w' ⟨v, gc', rfl, j1, j2, j3⟩
    have hu := fzUp_mark (ids Hc deep rr) Hc
    have jf := fz_inv j1 hu
    have je := fz_ext j1 hu
    have hr := frz_rep jf _ _ _ _ (frz_strict hu _ _ _ h fun id hid B' hB' => mark_fz _ _ _ _ hid hB') (repA_mono je j3)
    exact ⟨v, _, rfl, PExt.of_ext jf (j2.trans je), hr⟩
  · cases h
/-- Nothing that was there has turned. -/
theorem PExt.kept {F F' : Nat → Prop} {w w' : World} (h : PExt F w F' w') : w.keptBut w' (fun _ => False) := by
  refine ⟨h.os, h.output, fun i hi => ?_⟩
  rw [h.old i hi]
  split <;> rename_i h1 h2
  · cases h1.symm.trans h2; exact ⟨rfl, rfl, rfl, fun _ _ => rfl⟩
  · cases h1.symm.trans h2; exact .inr ⟨rfl, rfl⟩
  · rfl
theorem PExt.frozen {F F' : Nat → Prop} {w w' : World} (h : PExt F w F' w') {a : Addr} (ha : a.block < w.heap.size) : w'.frozen? a = w.frozen? a := by
  unfold World.frozen?
  rw [h.old _ ha]
end Go.Ev
