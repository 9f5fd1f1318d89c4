/-
  No cell of these rows narrows 'for every input' (looked for: loops, veiled, ifaces, maps, wideKeys, modest, calm, conditions, laid).
  DERIVED. THE GIVEN ROWS OF THIS SEAT. 3 by the template 'for every input the law returns true; each argument reads behind the call as it read before'; 0 by the template 'total and deterministic' (their statements: YtfhhgndppfpngaaTotals.lean).
  GIVEN WITH THE SEED: the statements are not yours to turn. If you find one false, say at which input.
  Laid BY PROGRAM, IN A SANDBOX (cutbox-rows.mjs): the forced cells as the released guide's own fill.sh prints them over the translation 89f6640f8808ab83… (all of the seat's roots in one cut). By AI agents, Wed Nov 11 2026. No macro, syntax, notation, axiom, sorry.
-/
import Derived.Test.YtfhhgndppfpngaaChecked
import GoSem.Claim
import GoSem.ClaimJoined
import GoSem.ClaimMapViews
import Derived.JoinedTies
import Derived.KernelRfl
namespace Go.Proofs.Ytfhhgndppfpngaa
/- THE CELL 'sum', in the pinned program and in every row, IS THE sha256 OF THE DUMP (.gsa) THAT YtfhhgndppfpngaaProg.lean LOADS. Nothing in Lean hashes anything: it is a label: what it is worth is what the hold of that sum in a sandbox is worth. -/
noncomputable def Try.pinned : Pinned := { name := "ytfhhgndppfpngaa", sum := "89f6640f8808ab83fe25dc70a8696c957e53a74f5e13e0a19252d0d8a1f70274", checked := Try.checked }
namespace Rows
def none {H : Type} : Left H := { results := [], args := [] }

/-- 'apostillelaw9.RsaSigns': WHATEVER THE INPUT: true; the input reads as it did. -/
def rsaSignsSpec : ChangeSpec := { name := "rsaSigns", fn := fun _ => fun
  | [d1, d2, d3, d4] => { results := [.lit (.bool true)], args := [d1, d2, d3, d4] }
  | _ => none }
def rsaSignsRow : OpenClaim := { program := "ytfhhgndppfpngaa", sum := "89f6640f8808ab83fe25dc70a8696c957e53a74f5e13e0a19252d0d8a1f70274", func := "apostille/apostillelaw9.RsaSigns", spec := "rsaSigns", inPlace := ["internal/bytealg.MakeNoZero"], named := ["math/bits.overflowError"], apart := false }
def RsaSignsSaid : Prop := rsaSignsRow.holds Try.pinned (OpenSpec.ofChange rsaSignsSpec)

/-- ITS FALSE NEIGHBOUR: 'it returns false'. Refute it at one input. -/
def rsaSignsWrong : ChangeSpec := { name := "rsaSigns", fn := fun _ => fun
  | [d1, d2, d3, d4] => { results := [.lit (.bool false)], args := [d1, d2, d3, d4] }
  | _ => none }
def RsaSignsWrongFalsely : Prop := rsaSignsRow.holds Try.pinned (OpenSpec.ofChange rsaSignsWrong)

/-- 'apostillelaw9.RsaLarge': WHATEVER THE INPUT: true; the input reads as it did. -/
def rsaLargeSpec : ChangeSpec := { name := "rsaLarge", fn := fun _ => fun
  | [d] => { results := [.lit (.bool true)], args := [d] }
  | _ => none }
def rsaLargeRow : OpenClaim := { program := "ytfhhgndppfpngaa", sum := "89f6640f8808ab83fe25dc70a8696c957e53a74f5e13e0a19252d0d8a1f70274", func := "apostille/apostillelaw9.RsaLarge", spec := "rsaLarge", inPlace := ["internal/bytealg.MakeNoZero"], named := ["math/bits.overflowError"], apart := false }
def RsaLargeSaid : Prop := rsaLargeRow.holds Try.pinned (OpenSpec.ofChange rsaLargeSpec)

/-- ITS FALSE NEIGHBOUR: 'it returns false'. Refute it at one input. -/
def rsaLargeWrong : ChangeSpec := { name := "rsaLarge", fn := fun _ => fun
  | [d] => { results := [.lit (.bool false)], args := [d] }
  | _ => none }
def RsaLargeWrongFalsely : Prop := rsaLargeRow.holds Try.pinned (OpenSpec.ofChange rsaLargeWrong)

/-- 'apostillelaw9.RsaKeys': WHATEVER THE INPUT: true; the input reads as it did. -/
def rsaKeysSpec : ChangeSpec := { name := "rsaKeys", fn := fun _ => fun
  | [d] => { results := [.lit (.bool true)], args := [d] }
  | _ => none }
def rsaKeysRow : OpenClaim := { program := "ytfhhgndppfpngaa", sum := "89f6640f8808ab83fe25dc70a8696c957e53a74f5e13e0a19252d0d8a1f70274", func := "apostille/apostillelaw9.RsaKeys", spec := "rsaKeys", inPlace := ["internal/bytealg.MakeNoZero"], named := ["math/bits.overflowError"], apart := false }
def RsaKeysSaid : Prop := rsaKeysRow.holds Try.pinned (OpenSpec.ofChange rsaKeysSpec)

/-- ITS FALSE NEIGHBOUR: 'it returns false'. Refute it at one input. -/
def rsaKeysWrong : ChangeSpec := { name := "rsaKeys", fn := fun _ => fun
  | [d] => { results := [.lit (.bool false)], args := [d] }
  | _ => none }
def RsaKeysWrongFalsely : Prop := rsaKeysRow.holds Try.pinned (OpenSpec.ofChange rsaKeysWrong)

/- THE SECOND FORM. 'bulk': how many values and letters a reading holds, each counted each time it is reached (what is shared counts as often as it is met; a slice's spare places count too). A statement '..UptoSaid' is the law's where the arguments, and the package variables that the reading takes, are together of bulk at most 1048576: NARROWER than '..Said'. Prove '..Said' where nothing that the law and all that it calls make is longer than what came in: it says more and counts as full. Else prove '..UptoSaid'. A law counts once. -/
mutual
def uptoBulk {H : Type} : DataW H → Nat
  | .lit (.string bytes) => bytes.length + 1
  | .lit _ => 1
  | .nil => 1
  | .ptr d => uptoBulk d + 1
  | .slice elems spare => uptoBulkAll elems + uptoBulkAll spare + 1
  | .agg parts => uptoBulkAll parts + 1
  | .iface _ d => uptoBulk d + 1
  | .map entries => uptoBulkEntries entries + 1
  | .held _ => 1
def uptoBulkAll {H : Type} : List (DataW H) → Nat
  | [] => 0
  | d :: r => uptoBulk d + uptoBulkAll r
def uptoBulkEntries {H : Type} : List (Lit × DataW H) → Nat
  | [] => 0
  | x :: r => uptoBulkEntry x + uptoBulkEntries r
def uptoBulkEntry {H : Type} : Lit × DataW H → Nat
  | (.string bytes, d) => bytes.length + uptoBulk d + 1
  | (_, d) => uptoBulk d + 1
 end
def uptoSmall : (H : Type) → List (DataW H) → Bool := fun _ ds => decide (uptoBulkAll ds ≤ 1048576)
def OpenSpec.upto (s : _root_.Go.ChangeSpec) : _root_.Go.OpenSpec := { _root_.Go.OpenSpec.ofChange s with cond := some uptoSmall }

/-- 'apostillelaw9.RsaSigns', WHERE WHAT IT READS IS OF BULK AT MOST 1048576: true; the input reads as it did. -/
def rsaSignsUptoRow : OpenClaim := { program := "ytfhhgndppfpngaa", sum := "89f6640f8808ab83fe25dc70a8696c957e53a74f5e13e0a19252d0d8a1f70274", func := "apostille/apostillelaw9.RsaSigns", spec := "rsaSigns", inPlace := ["internal/bytealg.MakeNoZero"], named := ["math/bits.overflowError"], apart := false, narrowed := true }
def RsaSignsUptoSaid : Prop := rsaSignsUptoRow.holds Try.pinned (OpenSpec.upto rsaSignsSpec)

/-- 'apostillelaw9.RsaLarge', WHERE WHAT IT READS IS OF BULK AT MOST 1048576: true; the input reads as it did. -/
def rsaLargeUptoRow : OpenClaim := { program := "ytfhhgndppfpngaa", sum := "89f6640f8808ab83fe25dc70a8696c957e53a74f5e13e0a19252d0d8a1f70274", func := "apostille/apostillelaw9.RsaLarge", spec := "rsaLarge", inPlace := ["internal/bytealg.MakeNoZero"], named := ["math/bits.overflowError"], apart := false, narrowed := true }
def RsaLargeUptoSaid : Prop := rsaLargeUptoRow.holds Try.pinned (OpenSpec.upto rsaLargeSpec)

/-- 'apostillelaw9.RsaKeys', WHERE WHAT IT READS IS OF BULK AT MOST 1048576: true; the input reads as it did. -/
def rsaKeysUptoRow : OpenClaim := { program := "ytfhhgndppfpngaa", sum := "89f6640f8808ab83fe25dc70a8696c957e53a74f5e13e0a19252d0d8a1f70274", func := "apostille/apostillelaw9.RsaKeys", spec := "rsaKeys", inPlace := ["internal/bytealg.MakeNoZero"], named := ["math/bits.overflowError"], apart := false, narrowed := true }
def RsaKeysUptoSaid : Prop := rsaKeysUptoRow.holds Try.pinned (OpenSpec.upto rsaKeysSpec)

end Rows
end Go.Proofs.Ytfhhgndppfpngaa
