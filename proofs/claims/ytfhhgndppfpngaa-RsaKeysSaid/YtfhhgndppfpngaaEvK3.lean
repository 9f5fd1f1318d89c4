/- RsaKeys by the evaluator. -/
import Derived.Test.YtfhhgndppfpngaaEvK2
set_option linter.unusedSimpArgs false
namespace Go.Proofs
open Go.Ev
noncomputable def rkC : Cfg := rkCfg.told rkT
theorem rkC_ok : CfgOK rkC ∧ fnsOK rkC := told_ok rk_ok.1 rk_ok.2 rkT_ok
theorem rk_keys0 : WP rkC 5 [.int .i64 0] = some (.bool true) := WP_run 150 (by kernel_rfl)
theorem rk_keys1 : WP rkC 5 [.int .i64 1] = some (.bool true) := WP_run 150 (by kernel_rfl)
theorem rk_keys2 : WP rkC 5 [.int .i64 2] = some (.bool true) := WP_run 150 (by kernel_rfl)
theorem rk_keys3 : WP rkC 5 [.int .i64 3] = some (.bool true) := WP_run 150 (by kernel_rfl)
theorem rk_keys4 : WP rkC 5 [.int .i64 4] = some (.bool true) := WP_run 150 (by kernel_rfl)
theorem rk_keys5 : WP rkC 5 [.int .i64 5] = some (.bool true) := WP_run 150 (by kernel_rfl)
theorem rk_keys6 : WP rkC 5 [.int .i64 6] = some (.bool true) := WP_run 150 (by kernel_rfl)
theorem rk_keys7 : WP rkC 5 [.int .i64 7] = some (.bool true) := WP_run 150 (by kernel_rfl)
theorem rk_keys8 : WP rkC 5 [.int .i64 8] = some (.bool true) := WP_run 150 (by kernel_rfl)
end Go.Proofs
