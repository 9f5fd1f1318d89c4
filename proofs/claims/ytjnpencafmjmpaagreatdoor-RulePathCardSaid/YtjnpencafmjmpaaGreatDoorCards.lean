/-
  DERIVED. GIVEN WITH THE SEED: THE CARDS: each row of YtjnpencafmjmpaaGreatDoorRows.lean that lists a variable, with what it lists TIED to the program's text (the seventh form; the later family's looks); each row that meets fmt, with fmt's text TOLD by the authors' own Lean function (tested against real Go, not proved from fmt's source: count such statements apart). THE CARD IS WHAT COUNTS. Prove the row's statement (the work); the ties are given (YtjnpencafmjmpaaGreatDoorTie.lean); close each card by the builder's one call (the guide's Derived/Test/ToyasCard.lean, 'card_holds'). Laid BY PROGRAM, IN A SANDBOX (cutbox-door.mjs). By AI agents, Wed Nov 11 2026. No macro, syntax, notation, axiom, sorry.
-/
import Derived.Test.YtjnpencafmjmpaaGreatDoorRows
import GoSem.ClaimSeven
namespace Go.Proofs.YtjnpencafmjmpaaGreatDoor
namespace Rows

/-- THE TIED CARD OF 'apostillelaw25.RuleTimes'. -/
def ruleTimesCard : Claim7 := { stood := { row := ruleTimesRow, standIns := [], harness := (true, "f7ae926937ea631676ca2139846281865c90d5dd8f3a6f2e70caa0abf7f94a78"), looks := false }, kinds := [], alts := [], laidByText := true, laidKinds := [.data, .pinned], laidTests := true, laidLooks := .later }
def RuleTimesCardSaid : Prop := Claim7.holds Tryz.pinned (.plain (OpenSpec.ofChange ruleTimesSpec)) ruleTimesCard

/-- THE TIED CARD OF 'apostillelaw25.RulePath'. -/
def rulePathCard : Claim7 := { stood := { row := rulePathRow, standIns := [], harness := (true, "f7ae926937ea631676ca2139846281865c90d5dd8f3a6f2e70caa0abf7f94a78"), looks := false }, kinds := [], alts := [], laidByText := true, laidKinds := [.data, .pinned], laidTests := true, laidLooks := .later }
def RulePathCardSaid : Prop := Claim7.holds Tryz.pinned (.plain (OpenSpec.ofChange rulePathSpec)) rulePathCard

/-- THE SECOND FORM's CARD OF 'apostillelaw25.RuleTimes'. -/
def ruleTimesUptoCard : Claim7 := { stood := { row := ruleTimesUptoRow, standIns := [], harness := (true, "f7ae926937ea631676ca2139846281865c90d5dd8f3a6f2e70caa0abf7f94a78"), looks := false }, kinds := [], alts := [], laidByText := true, laidKinds := [.data, .pinned], laidTests := true, laidLooks := .later }
def RuleTimesUptoCardSaid : Prop := Claim7.holds Tryz.pinned (.plain (OpenSpec.upto ruleTimesSpec)) ruleTimesUptoCard

/-- THE SECOND FORM's CARD OF 'apostillelaw25.RulePath'. -/
def rulePathUptoCard : Claim7 := { stood := { row := rulePathUptoRow, standIns := [], harness := (true, "f7ae926937ea631676ca2139846281865c90d5dd8f3a6f2e70caa0abf7f94a78"), looks := false }, kinds := [], alts := [], laidByText := true, laidKinds := [.data, .pinned], laidTests := true, laidLooks := .later }
def RulePathUptoCardSaid : Prop := Claim7.holds Tryz.pinned (.plain (OpenSpec.upto rulePathSpec)) rulePathUptoCard
end Rows
end Go.Proofs.YtjnpencafmjmpaaGreatDoor
