/- RsaKeys: whatever the input, the law returns true, and the input reads as it did. -/
import Derived.Test.YtfhhgndppfpngaaEvK4
import Derived.ProofKit
import Derived.RowKit
namespace Go.Proofs.Ytfhhgndppfpngaa
open Go.ChangeShapes Go.WideShapes Go.ChangeAt Go.RowKit Go.Ev

theorem keys_ev (w : Int) : WP rkC 5 [.int .i64 w] = some (.bool true) := by
  by_cases h0 : w = 0
  · subst h0; exact rk_keys0
  by_cases h1 : w = 1
  · subst h1; exact rk_keys1
  by_cases h2 : w = 2
  · subst h2; exact rk_keys2
  by_cases h3 : w = 3
  · subst h3; exact rk_keys3
  by_cases h4 : w = 4
  · subst h4; exact rk_keys4
  by_cases h5 : w = 5
  · subst h5; exact rk_keys5
  by_cases h6 : w = 6
  · subst h6; exact rk_keys6
  by_cases h7 : w = 7
  · subst h7; exact rk_keys7
  by_cases h8 : w = 8
  · subst h8; exact rk_keys8
  exact rk_keysN w (by simpa using h0) (by simpa using h1) (by simpa using h2) (by simpa using h3) (by simpa using h4) (by simpa using h5) (by simpa using h6) (by simpa using h7) (by simpa using h8)
theorem keys_calls (a : Int) (w : World) : Calls Try.prog 5 #[.int .i64 a] w fun e w' => e = .returned (.bool true) ∧ w.keptBut w' (fun _ => False) := by
  have h := WP_sound rkC_ok.1 rkC_ok.2 (keys_ev a) (F := fun _ => False) (w := w) (argv := #[.int .i64 a]) (fun _ h => h.elim) (by simp [repL, rep])
  refine h.mono ?_
  rintro e w' ⟨v, F', rfl, hp, hr⟩
  simp only [rep] at hr
  exact ⟨by rw [hr], hp.kept⟩
theorem own : ownKnob Try.prog.godebug = none := by kernel_rfl
set_option maxRecDepth 100000 in
theorem keys_lifted (os : Os) (started : os.Started) (H : Type) (enc : TypeId × Value → H) :
    ReturnsInHanded {} Try.checked os 5 .any (Rows.rsaKeysSpec.pre6 enc Try.prog Try.f5 Rows.rsaKeysRow.domain false) (Rows.rsaKeysSpec.post enc Try.prog Try.f5 false true false false) := by
  refine returnsInHanded_of_change (C := Try.checked) own started (by kernel_rfl) Try.func5
    (ChangeSpec.witness6 (enc := enc) (C := Try.checked) false ⟨#[], #[.int .i64 0], []⟩ 8 (by kernel_rfl) (by kernel_rfl) (by kernel_rfl) (by kernel_rfl)) ?_
  intro W base args ds gs before hval0 hW hcnd _
  have hval : ∀ (j : Nat) t v, Try.f5.params[j]? = some t → args[j]? = some v → Value.okWide Try.prog W .any base t v := hval0
  have hW' := hW
  obtain ⟨p, q, hA0, hV, rfl, hfz, hnd⟩ := hW
  have hA : DataW.TrodAll enc Try.prog W 0 (fun _ => true) true Try.f5.params.toList args.toList ds p := hA0
  rw [Try.params5] at hA hval
  obtain ⟨v0, d0, rfl, rfl, h0⟩ := trodAll_one hA
  obtain ⟨rfl, rfl⟩ := trodVars_none hV
  obtain ⟨x, rfl, rfl, rfl, wx⟩ := open_int Try.underlying3 (hval 0 3 v0 rfl rfl) h0
  clear hA0 hval0
  simp only [List.append_nil] at hW'
  refine (keys_calls x W).mono fun e W' ⟨he, hb⟩ => ?_
  subst he
  exact ⟨_, rfl, _, _, _, [], [], [], hW', trodAll_mk1 (shut_bool Try.underlying4 _), trodAll_mk1 (shut_int Try.underlying3 wx), rfl, World.keptBut_mono (fun _ h => h.elim) hb, fun h => by cases h⟩
theorem rsaKeys_proved : Rows.RsaKeysSaid :=
  OpenClaim.holds_of_wide 5 Try.f5 rfl rfl rfl rfl rfl rfl rfl ⟨rfl, rfl, rfl, rfl, rfl⟩ rfl rfl rfl rfl rfl (by kernel_rfl) Try.func5 (by kernel_rfl)
    (of_decide_eq_true (by kernel_rfl)) (by unfold Func.isWrapper; first | (rw [if_pos (by decide +kernel)]; kernel_rfl) | (rw [if_neg (by decide +kernel)]; exact ⟨rfl, rfl⟩))
    (fun os started H enc _ => keys_lifted os started H enc)
#print axioms rsaKeys_proved
end Go.Proofs.Ytfhhgndppfpngaa
