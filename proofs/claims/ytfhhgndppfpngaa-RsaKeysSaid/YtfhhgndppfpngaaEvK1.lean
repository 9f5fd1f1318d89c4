/- The RSA seat: how each function is called. -/
import Derived.Test.YtfhhgndppfpngaaRows
import Derived.Test.YtfhhgndppfpngaaEvS
namespace Go.Proofs
open Go.Ev
def rkL : List Nat := [9, 9, 9, 9, 0, 0, 1, 0, 0, 0, 0, 0, 0, 0, 0, 1, 0, 0, 0, 0, 0, 0, 0, 0, 0, 0, 0, 0, 0, 0, 0, 2, 0, 0, 0, 0, 0, 0, 0, 0, 0, 0, 0, 0, 0, 0, 0, 0, 1, 0, 2, 0, 0, 0, 0, 0, 6, 0, 0, 0, 0, 4, 0, 0, 1, 0, 2, 2, 0, 0, 0, 0]
noncomputable def rkCfg : Cfg := tabCfg Try.prog rkL
theorem rk_ok : CfgOK rkCfg ∧ fnsOK rkCfg := tabCfg_ok6 56 (by kernel_rfl) (by kernel_rfl) (by decide) ⟨Try.f56, 5, 22, Try.func56, rfl, rfl, by kernel_rfl, rfl, rfl, by kernel_rfl⟩
def rkN (l : List Nat) : PV := .sl l.length false (l.map fun (n : Nat) => PV.int .u32 (Int.ofNat n))
end Go.Proofs
