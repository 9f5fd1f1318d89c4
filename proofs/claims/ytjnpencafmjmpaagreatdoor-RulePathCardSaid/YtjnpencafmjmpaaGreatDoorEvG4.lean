/- RulePath: the contract of GetSmall as the evaluator's own. -/
import Derived.Test.YtjnpencafmjmpaaGreatDoorEvG3
set_option linter.unusedVariables false
namespace Go.Proofs
open Go.Ev
def smO (f : FuncId) (xs : List PV) : Option PV := if Nat.beq f 32 then match xs with
  | [.agg [.int .u8 (.ofNat 2), .sl 1 false [.int .u8 (.ofNat p)], .sl 0 false []]] => if Nat.ble p 100 then some (.tup [.int .u64 (Int.ofNat p), .bool true]) else none
  | _ => none else none
noncomputable def tpC : Cfg := { tpB with O := smO }
theorem smO_ok : OraOK tpC := by
  intro f xs r h F w argv hF hr
  change smO f xs = some r at h
  unfold smO at h
  split at h
  · rename_i hf
    obtain rfl := Nat.eq_of_beq_eq_true hf
    split at h
    · rename_i p
      split at h
      · rename_i hp
        have hp' := Nat.le_of_ble_eq_true hp
        cases h
        obtain ⟨argv⟩ := argv
        match argv, hr with
        | [v], hr =>
          simp only [repL, rep, and_true] at hr
          obtain ⟨vs, rfl, hr⟩ := hr
          obtain ⟨vs⟩ := vs
          match vs, hr with
          | [x, y, z], hr =>
            simp only [repL, rep, and_true] at hr
            obtain ⟨rfl, hy, hz⟩ := hr
            have hy' := hy
            have hz' := hz
            obtain ⟨A, c, rfl, _⟩ := hy
            obtain ⟨A2, c2, rfl, _⟩ := hz
            have hi : IsOne F w p A c A2 c2 := ⟨hF, by simp only [repL, rep, and_true, true_and]; exact ⟨hy', hz'⟩⟩
            refine (small_calls hp' hi).mono ?_
            rintro e w' ⟨rfl, hB⟩
            exact ⟨_, F, rfl, ⟨fun _ h => h, fun b hb => hB.block b hb, hB.size, hB.os, hB.tape, hB.output, fun _ h => .inl h, fun b hb => Nat.lt_of_lt_of_le (hF b hb) hB.size⟩, by simp only [rep]; exact ⟨_, rfl, by simp [repL, rep]⟩⟩
          | [], hr => simp [repL] at hr
          | [_], hr => simp [repL] at hr
          | [_, _], hr => simp [repL] at hr
          | _ :: _ :: _ :: _ :: _, hr => simp [repL] at hr
        | [], hr => simp [repL] at hr
        | _ :: _ :: _, hr => simp [repL] at hr
      · cases h
    · cases h
  · cases h
theorem codeOK_O {C : Cfg} {O : FuncId → List PV → Option PV} : ∀ c, codeOK { C with O := O } c = codeOK C c := by
  intro c
  induction c with
  | seq a b iha ihb => simp only [codeOK, iha, ihb]
  | cond c a b iha ihb => simp only [codeOK, iha, ihb]
  | block id a ih => simp only [codeOK, ih]
  | loop a ih => simp only [codeOK, ih]
  | region id ops d => rfl
  | _ => rfl
theorem tpC_ok : CfgOK tpC ∧ fnsOK tpC :=
  ⟨⟨tpB_ok.1.fn, smO_ok, tpB_ok.1.nz, tpB_ok.1.mixed⟩, fun f fn c h1 h2 h3 => (codeOK_O (C := tpB) (O := smO) c).trans (tpB_ok.2 f fn c h1 h2 h3)⟩
end Go.Proofs
