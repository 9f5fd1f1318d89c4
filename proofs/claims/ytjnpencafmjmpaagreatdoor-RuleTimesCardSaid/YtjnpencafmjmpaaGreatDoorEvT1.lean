import Derived.Test.YtjnpencafmjmpaaGreatDoorTie
import Derived.Test.YtjnpencafmjmpaaGreatDoorEvQ
namespace Go.Proofs
open Go.Ev
def tzL : List Nat := [9, 9, 0, 0, 0, 0, 0, 0, 0, 0, 0, 0, 0, 0, 0, 0, 0, 0, 0, 0, 0, 0, 0, 0, 0, 3, 0, 0, 3, 0, 0, 0, 0, 0, 0, 0, 0, 3, 3, 3, 0, 3, 3, 0, 3, 3, 3, 0, 9, 0, 0, 0, 9, 3, 0, 9, 9, 9, 9, 9, 9, 4, 9, 9, 9, 3, 3, 9, 3, 3]
noncomputable def tzCfg : Cfg := tabCfg Tryz.prog tzL
theorem tz_ok : CfgOK tzCfg ∧ fnsOK tzCfg := tabCfg_ok (by kernel_rfl) (by kernel_rfl) (by decide)
theorem basic_nil : WP tzCfg 12 [.sl 0 false []] = some (.tup [.agg [.bool false, .int .i64 (-1)], .bool true]) := WP_run 20 (by kernel_rfl)
theorem usage_nil : WP tzCfg 13 [.sl 0 false []] = some (.tup [.int .u8 0, .bool false, .bool true]) := WP_run 20 (by kernel_rfl)
theorem uses_nil : WP tzCfg 14 [.sl 0 false []] = some (.tup [.sl 0 false [], .bool false, .bool true]) := WP_run 20 (by kernel_rfl)
theorem only_nil : WP tzCfg 15 [.sl 0 false []] = some (.tup [.sl 0 false [], .bool false, .bool true]) := WP_run 20 (by kernel_rfl)
theorem odd_nil : WP tzCfg 16 [.sl 0 false []] = some (.bool false) := WP_run 20 (by kernel_rfl)
theorem known_ok : WP tzCfg 6 [] = some (.bool true) := WP_run 20 (by kernel_rfl)
end Go.Proofs
