/- RsaLarge: whatever the input, the law returns true, and the input reads as it did. No condition. -/
import Derived.Test.YtfhhgndppfpngaaRsa23
import Derived.ProofKit
import Derived.RowKit
import Derived.ChangeSlices
import Derived.Carry
set_option linter.unusedSimpArgs false
set_option linter.unusedVariables false
namespace Go.Proofs.Ytfhhgndppfpngaa
open Go.ChangeShapes Go.WideShapes Go.ChangeAt Go.RowKit Go.Ev

theorem laidOut : laidOutB Try.prog = true := by kernel_rfl
theorem cells5 : Try.prog.cellsOf 5 = 1 := by kernel_rfl
theorem wf_u8 {n : Int} (h : (Lit.int .u8 n).wf = true) : 0 ≤ n ∧ n < 256 := by
  have h' : (0 ≤ n ∧ n ≤ 255) := by simpa [Lit.wf, IntKind.min, IntKind.max, IntKind.bits, IntKind.signed] using h
  omega
/-- An argument of bytes, as the evaluator reads it. -/
theorem open_bytes {H : Type} {enc : TypeId × Value → H} {w : World} {a0 : Option Addr} {len cap : Nat} {d : DataW H} {ps : List MemPlace} (h : DataW.Trod enc Try.prog w 0 (fun _ => true) true 22 (.slice a0 len cap) d ps) :
    ∃ l : List Nat, Bytes l ∧ rep (fun b => b < w.heap.size) w (B8 l) (.slice a0 len cap) := by
  obtain ⟨fuel, hf⟩ := h
  rcases open_ints Try.underlying22 Try.underlying5 cells5 hf with ⟨hcs, _⟩ | ⟨a, len', cap', zs, hcs, _, hl, _, hz, _, hcell, hwz⟩
  · simp [Value.cells] at hcs
    obtain ⟨rfl, rfl, rfl⟩ := hcs
    refine ⟨[], fun x hx => by simp at hx, ?_⟩
    simp only [B8, rep]
    exact ⟨none, 0, rfl, Nat.le_refl _, (fun h => by cases h), fun _ => rfl, .inl rfl⟩
  · simp [Value.cells] at hcs
    obtain ⟨rfl, rfl, rfl⟩ := hcs
    simp only [if_true] at hz
    have hlen : (zs.take len).length = len := by rw [List.length_take]; omega
    refine ⟨(zs.take len).map Int.toNat, fun x hx => ?_, ?_⟩
    · obtain ⟨y, hy, rfl⟩ := List.mem_map.1 hx
      have := wf_u8 (hwz y (List.mem_of_mem_take hy))
      omega
    simp only [B8, rep, List.length_map, hlen]
    refine ⟨some a, cap, rfl, hl, (fun h => by cases h), (fun h => by cases h), ?_⟩
    by_cases h0 : len = 0
    · left
      rw [h0]; rfl
    · right
      have hc0 := hcell 0 (by omega)
      rw [show a.add 0 = a from rfl] at hc0
      obtain ⟨b, off, spot⟩ := a
      have hsp : spot = none ∧ b < w.heap.size := by
        unfold World.cell? at hc0
        split at hc0
        · rename_i c e fr hb
          split at hc0
          · cases hc0
          · rename_i hs
            refine ⟨by cases spot <;> simp_all, ?_⟩
            exact (Array.getElem?_eq_some_iff.1 hb).1
        · cases hc0
      obtain ⟨rfl, hb⟩ := hsp
      refine ⟨b, off, rfl, hb, ?_⟩
      rw [repF_iff]
      intro i x hi
      rw [List.map_map, List.getElem?_map, Option.map_eq_some_iff] at hi
      obtain ⟨z, hz1, rfl⟩ := hi
      rw [List.getElem?_take] at hz1
      split at hz1
      · rename_i hil
        have hci := hcell i (by omega)
        have hzz : zs.getD i 0 = z := by rw [List.getD_eq_getElem?_getD, hz1]; rfl
        have hw := wf_u8 (hwz z (List.mem_of_getElem? hz1))
        refine ⟨.int .u8 z, ?_, ?_⟩
        · rw [hzz] at hci
          rw [← hci]
          congr 1
          unfold Addr.add
          split
          · rename_i h; rw [h]; rfl
          · rfl
        · simp only [Function.comp, pb, rep]
          congr 1
          omega
      · cases hz1
theorem large_calls {l : List Nat} (hl : Bytes l) {v : Value} {w : World} (hr : rep (fun b => b < w.heap.size) w (B8 l) v) : Calls Try.prog 4 #[v] w fun e w' => e = .returned (.bool true) ∧ w.keptBut w' (fun _ => False) ∧ Below w.heap.size w w' := by
  have h := WP_sound rsD_ok.1 rsD_ok.2 (large_ev l hl) (F := fun b => b < w.heap.size) (w := w) (argv := #[v]) (fun _ h => h) (by simp only [repL, and_true]; exact hr)
  refine h.mono ?_
  rintro e w' ⟨v, F', rfl, hp, hr⟩
  simp only [rep] at hr
  exact ⟨by rw [hr], hp.kept, hp.os, hp.tape, hp.output, hp.size, hp.old⟩
theorem ownL : ownKnob Try.prog.godebug = none := by kernel_rfl
set_option maxRecDepth 100000 in
theorem large_lifted (os : Os) (started : os.Started) (H : Type) (enc : TypeId × Value → H) :
    ReturnsInHanded {} Try.checked os 4 .any (Rows.rsaLargeSpec.pre6 enc Try.prog Try.f4 Rows.rsaLargeRow.domain false) (Rows.rsaLargeSpec.post enc Try.prog Try.f4 false true false false) := by
  refine returnsInHanded_of_change (C := Try.checked) ownL started (by kernel_rfl) Try.func4
    (ChangeSpec.witness6 (enc := enc) (C := Try.checked) false ⟨#[], #[.slice none 0 0], []⟩ 8 (by kernel_rfl) (by kernel_rfl) (by kernel_rfl) (by kernel_rfl)) ?_
  intro W base args ds gs before hval0 hW hcnd _
  have hval : ∀ (j : Nat) t v, Try.f4.params[j]? = some t → args[j]? = some v → Value.okWide Try.prog W .any base t v := hval0
  have hW' := hW
  obtain ⟨p, q, hA0, hV, rfl, hfz, hnd⟩ := hW
  have hA : DataW.TrodAll enc Try.prog W 0 (fun _ => true) true Try.f4.params.toList args.toList ds p := hA0
  rw [Try.params4] at hA hval
  obtain ⟨v0, d0, rfl, rfl, h0⟩ := trodAll_one hA
  obtain ⟨rfl, rfl⟩ := trodVars_none hV
  obtain ⟨a0, len, cap, rfl⟩ := okWide_slice Try.underlying22 (hval 0 22 v0 rfl rfl)
  clear hA0 hval0
  simp only [List.append_nil] at hW'
  have hlt : ∀ x ∈ p, x.block < W.heap.size := fun x hx => by simpa using hW'.lt x hx
  obtain ⟨l, hl, hr⟩ := open_bytes h0
  refine (large_calls hl hr).mono fun e W' ⟨he, hb, hw⟩ => ?_
  subst he
  exact ⟨_, rfl, _, _, _, [], p, [], hW', trodAll_mk1 (shut_bool Try.underlying4 _), trodAll_mk1 (Below.trod laidOut (by kernel_rfl) (of_decide_eq_true (by kernel_rfl)) h0 hw hlt), rfl, World.keptBut_mono (fun _ h => h.elim) hb, fun h => by cases h⟩
theorem rsaLarge_proved : Rows.RsaLargeSaid :=
  OpenClaim.holds_of_wide 4 Try.f4 rfl rfl rfl rfl rfl rfl rfl ⟨rfl, rfl, rfl, rfl, rfl⟩ rfl rfl rfl rfl rfl (by kernel_rfl) Try.func4 (by kernel_rfl)
    (of_decide_eq_true (by kernel_rfl)) (by unfold Func.isWrapper; first | (rw [if_pos (by decide +kernel)]; kernel_rfl) | (rw [if_neg (by decide +kernel)]; exact ⟨rfl, rfl⟩))
    (fun os started H enc _ => large_lifted os started H enc)
#print axioms rsaLarge_proved
end Go.Proofs.Ytfhhgndppfpngaa
