/- RulePath: the table of modes; what GetInt and nat.Bits answer of a byte. -/
import Derived.Test.YtjnpencafmjmpaaGreatDoorTie
import Derived.Test.YtjnpencafmjmpaaGreatDoorEvS
namespace Go.Proofs
open Go.Ev
def tpL : List Nat := [9, 9, 9, 0, 0, 0, 0, 0, 0, 0, 0, 0, 0, 0, 0, 0, 0, 0, 0, 0, 0, 0, 0, 0, 0, 3, 0, 0, 3, 0, 0, 0, 0, 0, 0, 0, 0, 3, 3, 3, 0, 3, 3, 0, 3, 3, 3, 0, 0, 0, 0, 0, 0, 3, 0, 0, 4, 0, 0, 0, 0, 4, 0, 0, 0, 3, 3, 0, 3, 3, 0, 0, 0, 0, 9, 0, 0, 0, 0, 0, 0, 2, 0, 0, 0, 0, 0, 0, 0, 0, 0, 0, 0, 0, 0, 0, 0, 9, 0, 0, 0, 9, 0, 0, 2, 2, 0, 0, 0, 0, 0, 0, 0, 0, 0, 0, 0, 0, 0, 0, 0, 0, 0, 0, 0, 0, 0, 0, 0, 0, 0, 0, 0, 0, 0, 0, 0, 0, 0, 9, 9, 0, 0, 0, 0, 0, 0, 0, 0, 0, 0, 0, 0, 9, 0, 0, 0, 9, 9, 9]
noncomputable def tpB : Cfg := tabCfg Tryz.prog tpL
theorem tpB_ok : CfgOK tpB ∧ fnsOK tpB := tabCfg_ok (by kernel_rfl) (by kernel_rfl) (by decide)
def oneNode (p : Nat) : PV := .agg [.int .u8 2, .sl 1 false [.int .u8 (Int.ofNat p)], .sl 0 false []]
def oneNat : Nat → PV
  | 0 => .sl 0 false []
  | p + 1 => .sl 1 false [.int .u32 (Int.ofNat (p + 1))]
def bitsOf : List Int := [0, 1, 2, 2, 3, 3, 3, 3, 4, 4, 4, 4, 4, 4, 4, 4, 5, 5, 5, 5, 5, 5, 5, 5, 5, 5, 5, 5, 5, 5, 5, 5, 6, 6, 6, 6, 6, 6, 6, 6, 6, 6, 6, 6, 6, 6, 6, 6, 6, 6, 6, 6, 6, 6, 6, 6, 6, 6, 6, 6, 6, 6, 6, 6, 7, 7, 7, 7, 7, 7, 7, 7, 7, 7, 7, 7, 7, 7, 7, 7, 7, 7, 7, 7, 7, 7, 7, 7, 7, 7, 7, 7, 7, 7, 7, 7, 7, 7, 7, 7, 7]
theorem int_0 : WP tpB 58 [oneNode 0, .int .i64 9] = some (.tup [oneNat 0, .bool true]) := WP_run 60 (by kernel_rfl)
theorem bits_0 : WP tpB 59 [oneNat 0] = some (.int .i64 0) := WP_run 60 (by kernel_rfl)
theorem int_1 : WP tpB 58 [oneNode 1, .int .i64 9] = some (.tup [oneNat 1, .bool true]) := WP_run 60 (by kernel_rfl)
theorem bits_1 : WP tpB 59 [oneNat 1] = some (.int .i64 1) := WP_run 60 (by kernel_rfl)
theorem int_2 : WP tpB 58 [oneNode 2, .int .i64 9] = some (.tup [oneNat 2, .bool true]) := WP_run 60 (by kernel_rfl)
theorem bits_2 : WP tpB 59 [oneNat 2] = some (.int .i64 2) := WP_run 60 (by kernel_rfl)
theorem int_3 : WP tpB 58 [oneNode 3, .int .i64 9] = some (.tup [oneNat 3, .bool true]) := WP_run 60 (by kernel_rfl)
theorem bits_3 : WP tpB 59 [oneNat 3] = some (.int .i64 2) := WP_run 60 (by kernel_rfl)
theorem int_4 : WP tpB 58 [oneNode 4, .int .i64 9] = some (.tup [oneNat 4, .bool true]) := WP_run 60 (by kernel_rfl)
theorem bits_4 : WP tpB 59 [oneNat 4] = some (.int .i64 3) := WP_run 60 (by kernel_rfl)
theorem int_5 : WP tpB 58 [oneNode 5, .int .i64 9] = some (.tup [oneNat 5, .bool true]) := WP_run 60 (by kernel_rfl)
theorem bits_5 : WP tpB 59 [oneNat 5] = some (.int .i64 3) := WP_run 60 (by kernel_rfl)
theorem int_6 : WP tpB 58 [oneNode 6, .int .i64 9] = some (.tup [oneNat 6, .bool true]) := WP_run 60 (by kernel_rfl)
theorem bits_6 : WP tpB 59 [oneNat 6] = some (.int .i64 3) := WP_run 60 (by kernel_rfl)
theorem int_7 : WP tpB 58 [oneNode 7, .int .i64 9] = some (.tup [oneNat 7, .bool true]) := WP_run 60 (by kernel_rfl)
theorem bits_7 : WP tpB 59 [oneNat 7] = some (.int .i64 3) := WP_run 60 (by kernel_rfl)
theorem int_8 : WP tpB 58 [oneNode 8, .int .i64 9] = some (.tup [oneNat 8, .bool true]) := WP_run 60 (by kernel_rfl)
theorem bits_8 : WP tpB 59 [oneNat 8] = some (.int .i64 4) := WP_run 60 (by kernel_rfl)
theorem int_9 : WP tpB 58 [oneNode 9, .int .i64 9] = some (.tup [oneNat 9, .bool true]) := WP_run 60 (by kernel_rfl)
theorem bits_9 : WP tpB 59 [oneNat 9] = some (.int .i64 4) := WP_run 60 (by kernel_rfl)
theorem int_10 : WP tpB 58 [oneNode 10, .int .i64 9] = some (.tup [oneNat 10, .bool true]) := WP_run 60 (by kernel_rfl)
theorem bits_10 : WP tpB 59 [oneNat 10] = some (.int .i64 4) := WP_run 60 (by kernel_rfl)
theorem int_11 : WP tpB 58 [oneNode 11, .int .i64 9] = some (.tup [oneNat 11, .bool true]) := WP_run 60 (by kernel_rfl)
theorem bits_11 : WP tpB 59 [oneNat 11] = some (.int .i64 4) := WP_run 60 (by kernel_rfl)
theorem int_12 : WP tpB 58 [oneNode 12, .int .i64 9] = some (.tup [oneNat 12, .bool true]) := WP_run 60 (by kernel_rfl)
theorem bits_12 : WP tpB 59 [oneNat 12] = some (.int .i64 4) := WP_run 60 (by kernel_rfl)
theorem int_13 : WP tpB 58 [oneNode 13, .int .i64 9] = some (.tup [oneNat 13, .bool true]) := WP_run 60 (by kernel_rfl)
theorem bits_13 : WP tpB 59 [oneNat 13] = some (.int .i64 4) := WP_run 60 (by kernel_rfl)
theorem int_14 : WP tpB 58 [oneNode 14, .int .i64 9] = some (.tup [oneNat 14, .bool true]) := WP_run 60 (by kernel_rfl)
theorem bits_14 : WP tpB 59 [oneNat 14] = some (.int .i64 4) := WP_run 60 (by kernel_rfl)
theorem int_15 : WP tpB 58 [oneNode 15, .int .i64 9] = some (.tup [oneNat 15, .bool true]) := WP_run 60 (by kernel_rfl)
theorem bits_15 : WP tpB 59 [oneNat 15] = some (.int .i64 4) := WP_run 60 (by kernel_rfl)
theorem int_16 : WP tpB 58 [oneNode 16, .int .i64 9] = some (.tup [oneNat 16, .bool true]) := WP_run 60 (by kernel_rfl)
theorem bits_16 : WP tpB 59 [oneNat 16] = some (.int .i64 5) := WP_run 60 (by kernel_rfl)
theorem int_17 : WP tpB 58 [oneNode 17, .int .i64 9] = some (.tup [oneNat 17, .bool true]) := WP_run 60 (by kernel_rfl)
theorem bits_17 : WP tpB 59 [oneNat 17] = some (.int .i64 5) := WP_run 60 (by kernel_rfl)
theorem int_18 : WP tpB 58 [oneNode 18, .int .i64 9] = some (.tup [oneNat 18, .bool true]) := WP_run 60 (by kernel_rfl)
theorem bits_18 : WP tpB 59 [oneNat 18] = some (.int .i64 5) := WP_run 60 (by kernel_rfl)
theorem int_19 : WP tpB 58 [oneNode 19, .int .i64 9] = some (.tup [oneNat 19, .bool true]) := WP_run 60 (by kernel_rfl)
theorem bits_19 : WP tpB 59 [oneNat 19] = some (.int .i64 5) := WP_run 60 (by kernel_rfl)
theorem int_20 : WP tpB 58 [oneNode 20, .int .i64 9] = some (.tup [oneNat 20, .bool true]) := WP_run 60 (by kernel_rfl)
theorem bits_20 : WP tpB 59 [oneNat 20] = some (.int .i64 5) := WP_run 60 (by kernel_rfl)
theorem int_21 : WP tpB 58 [oneNode 21, .int .i64 9] = some (.tup [oneNat 21, .bool true]) := WP_run 60 (by kernel_rfl)
theorem bits_21 : WP tpB 59 [oneNat 21] = some (.int .i64 5) := WP_run 60 (by kernel_rfl)
theorem int_22 : WP tpB 58 [oneNode 22, .int .i64 9] = some (.tup [oneNat 22, .bool true]) := WP_run 60 (by kernel_rfl)
theorem bits_22 : WP tpB 59 [oneNat 22] = some (.int .i64 5) := WP_run 60 (by kernel_rfl)
theorem int_23 : WP tpB 58 [oneNode 23, .int .i64 9] = some (.tup [oneNat 23, .bool true]) := WP_run 60 (by kernel_rfl)
theorem bits_23 : WP tpB 59 [oneNat 23] = some (.int .i64 5) := WP_run 60 (by kernel_rfl)
theorem int_24 : WP tpB 58 [oneNode 24, .int .i64 9] = some (.tup [oneNat 24, .bool true]) := WP_run 60 (by kernel_rfl)
theorem bits_24 : WP tpB 59 [oneNat 24] = some (.int .i64 5) := WP_run 60 (by kernel_rfl)
theorem int_25 : WP tpB 58 [oneNode 25, .int .i64 9] = some (.tup [oneNat 25, .bool true]) := WP_run 60 (by kernel_rfl)
theorem bits_25 : WP tpB 59 [oneNat 25] = some (.int .i64 5) := WP_run 60 (by kernel_rfl)
theorem int_26 : WP tpB 58 [oneNode 26, .int .i64 9] = some (.tup [oneNat 26, .bool true]) := WP_run 60 (by kernel_rfl)
theorem bits_26 : WP tpB 59 [oneNat 26] = some (.int .i64 5) := WP_run 60 (by kernel_rfl)
theorem int_27 : WP tpB 58 [oneNode 27, .int .i64 9] = some (.tup [oneNat 27, .bool true]) := WP_run 60 (by kernel_rfl)
theorem bits_27 : WP tpB 59 [oneNat 27] = some (.int .i64 5) := WP_run 60 (by kernel_rfl)
theorem int_28 : WP tpB 58 [oneNode 28, .int .i64 9] = some (.tup [oneNat 28, .bool true]) := WP_run 60 (by kernel_rfl)
theorem bits_28 : WP tpB 59 [oneNat 28] = some (.int .i64 5) := WP_run 60 (by kernel_rfl)
theorem int_29 : WP tpB 58 [oneNode 29, .int .i64 9] = some (.tup [oneNat 29, .bool true]) := WP_run 60 (by kernel_rfl)
theorem bits_29 : WP tpB 59 [oneNat 29] = some (.int .i64 5) := WP_run 60 (by kernel_rfl)
theorem int_30 : WP tpB 58 [oneNode 30, .int .i64 9] = some (.tup [oneNat 30, .bool true]) := WP_run 60 (by kernel_rfl)
theorem bits_30 : WP tpB 59 [oneNat 30] = some (.int .i64 5) := WP_run 60 (by kernel_rfl)
theorem int_31 : WP tpB 58 [oneNode 31, .int .i64 9] = some (.tup [oneNat 31, .bool true]) := WP_run 60 (by kernel_rfl)
theorem bits_31 : WP tpB 59 [oneNat 31] = some (.int .i64 5) := WP_run 60 (by kernel_rfl)
theorem int_32 : WP tpB 58 [oneNode 32, .int .i64 9] = some (.tup [oneNat 32, .bool true]) := WP_run 60 (by kernel_rfl)
theorem bits_32 : WP tpB 59 [oneNat 32] = some (.int .i64 6) := WP_run 60 (by kernel_rfl)
theorem int_33 : WP tpB 58 [oneNode 33, .int .i64 9] = some (.tup [oneNat 33, .bool true]) := WP_run 60 (by kernel_rfl)
theorem bits_33 : WP tpB 59 [oneNat 33] = some (.int .i64 6) := WP_run 60 (by kernel_rfl)
theorem int_34 : WP tpB 58 [oneNode 34, .int .i64 9] = some (.tup [oneNat 34, .bool true]) := WP_run 60 (by kernel_rfl)
theorem bits_34 : WP tpB 59 [oneNat 34] = some (.int .i64 6) := WP_run 60 (by kernel_rfl)
theorem int_35 : WP tpB 58 [oneNode 35, .int .i64 9] = some (.tup [oneNat 35, .bool true]) := WP_run 60 (by kernel_rfl)
theorem bits_35 : WP tpB 59 [oneNat 35] = some (.int .i64 6) := WP_run 60 (by kernel_rfl)
theorem int_36 : WP tpB 58 [oneNode 36, .int .i64 9] = some (.tup [oneNat 36, .bool true]) := WP_run 60 (by kernel_rfl)
theorem bits_36 : WP tpB 59 [oneNat 36] = some (.int .i64 6) := WP_run 60 (by kernel_rfl)
theorem int_37 : WP tpB 58 [oneNode 37, .int .i64 9] = some (.tup [oneNat 37, .bool true]) := WP_run 60 (by kernel_rfl)
theorem bits_37 : WP tpB 59 [oneNat 37] = some (.int .i64 6) := WP_run 60 (by kernel_rfl)
theorem int_38 : WP tpB 58 [oneNode 38, .int .i64 9] = some (.tup [oneNat 38, .bool true]) := WP_run 60 (by kernel_rfl)
theorem bits_38 : WP tpB 59 [oneNat 38] = some (.int .i64 6) := WP_run 60 (by kernel_rfl)
theorem int_39 : WP tpB 58 [oneNode 39, .int .i64 9] = some (.tup [oneNat 39, .bool true]) := WP_run 60 (by kernel_rfl)
theorem bits_39 : WP tpB 59 [oneNat 39] = some (.int .i64 6) := WP_run 60 (by kernel_rfl)
theorem int_40 : WP tpB 58 [oneNode 40, .int .i64 9] = some (.tup [oneNat 40, .bool true]) := WP_run 60 (by kernel_rfl)
theorem bits_40 : WP tpB 59 [oneNat 40] = some (.int .i64 6) := WP_run 60 (by kernel_rfl)
theorem int_41 : WP tpB 58 [oneNode 41, .int .i64 9] = some (.tup [oneNat 41, .bool true]) := WP_run 60 (by kernel_rfl)
theorem bits_41 : WP tpB 59 [oneNat 41] = some (.int .i64 6) := WP_run 60 (by kernel_rfl)
theorem int_42 : WP tpB 58 [oneNode 42, .int .i64 9] = some (.tup [oneNat 42, .bool true]) := WP_run 60 (by kernel_rfl)
theorem bits_42 : WP tpB 59 [oneNat 42] = some (.int .i64 6) := WP_run 60 (by kernel_rfl)
theorem int_43 : WP tpB 58 [oneNode 43, .int .i64 9] = some (.tup [oneNat 43, .bool true]) := WP_run 60 (by kernel_rfl)
theorem bits_43 : WP tpB 59 [oneNat 43] = some (.int .i64 6) := WP_run 60 (by kernel_rfl)
theorem int_44 : WP tpB 58 [oneNode 44, .int .i64 9] = some (.tup [oneNat 44, .bool true]) := WP_run 60 (by kernel_rfl)
theorem bits_44 : WP tpB 59 [oneNat 44] = some (.int .i64 6) := WP_run 60 (by kernel_rfl)
theorem int_45 : WP tpB 58 [oneNode 45, .int .i64 9] = some (.tup [oneNat 45, .bool true]) := WP_run 60 (by kernel_rfl)
theorem bits_45 : WP tpB 59 [oneNat 45] = some (.int .i64 6) := WP_run 60 (by kernel_rfl)
theorem int_46 : WP tpB 58 [oneNode 46, .int .i64 9] = some (.tup [oneNat 46, .bool true]) := WP_run 60 (by kernel_rfl)
theorem bits_46 : WP tpB 59 [oneNat 46] = some (.int .i64 6) := WP_run 60 (by kernel_rfl)
theorem int_47 : WP tpB 58 [oneNode 47, .int .i64 9] = some (.tup [oneNat 47, .bool true]) := WP_run 60 (by kernel_rfl)
theorem bits_47 : WP tpB 59 [oneNat 47] = some (.int .i64 6) := WP_run 60 (by kernel_rfl)
theorem int_48 : WP tpB 58 [oneNode 48, .int .i64 9] = some (.tup [oneNat 48, .bool true]) := WP_run 60 (by kernel_rfl)
theorem bits_48 : WP tpB 59 [oneNat 48] = some (.int .i64 6) := WP_run 60 (by kernel_rfl)
theorem int_49 : WP tpB 58 [oneNode 49, .int .i64 9] = some (.tup [oneNat 49, .bool true]) := WP_run 60 (by kernel_rfl)
theorem bits_49 : WP tpB 59 [oneNat 49] = some (.int .i64 6) := WP_run 60 (by kernel_rfl)
theorem int_50 : WP tpB 58 [oneNode 50, .int .i64 9] = some (.tup [oneNat 50, .bool true]) := WP_run 60 (by kernel_rfl)
theorem bits_50 : WP tpB 59 [oneNat 50] = some (.int .i64 6) := WP_run 60 (by kernel_rfl)
theorem int_51 : WP tpB 58 [oneNode 51, .int .i64 9] = some (.tup [oneNat 51, .bool true]) := WP_run 60 (by kernel_rfl)
theorem bits_51 : WP tpB 59 [oneNat 51] = some (.int .i64 6) := WP_run 60 (by kernel_rfl)
theorem int_52 : WP tpB 58 [oneNode 52, .int .i64 9] = some (.tup [oneNat 52, .bool true]) := WP_run 60 (by kernel_rfl)
theorem bits_52 : WP tpB 59 [oneNat 52] = some (.int .i64 6) := WP_run 60 (by kernel_rfl)
theorem int_53 : WP tpB 58 [oneNode 53, .int .i64 9] = some (.tup [oneNat 53, .bool true]) := WP_run 60 (by kernel_rfl)
theorem bits_53 : WP tpB 59 [oneNat 53] = some (.int .i64 6) := WP_run 60 (by kernel_rfl)
theorem int_54 : WP tpB 58 [oneNode 54, .int .i64 9] = some (.tup [oneNat 54, .bool true]) := WP_run 60 (by kernel_rfl)
theorem bits_54 : WP tpB 59 [oneNat 54] = some (.int .i64 6) := WP_run 60 (by kernel_rfl)
theorem int_55 : WP tpB 58 [oneNode 55, .int .i64 9] = some (.tup [oneNat 55, .bool true]) := WP_run 60 (by kernel_rfl)
theorem bits_55 : WP tpB 59 [oneNat 55] = some (.int .i64 6) := WP_run 60 (by kernel_rfl)
theorem int_56 : WP tpB 58 [oneNode 56, .int .i64 9] = some (.tup [oneNat 56, .bool true]) := WP_run 60 (by kernel_rfl)
theorem bits_56 : WP tpB 59 [oneNat 56] = some (.int .i64 6) := WP_run 60 (by kernel_rfl)
theorem int_57 : WP tpB 58 [oneNode 57, .int .i64 9] = some (.tup [oneNat 57, .bool true]) := WP_run 60 (by kernel_rfl)
theorem bits_57 : WP tpB 59 [oneNat 57] = some (.int .i64 6) := WP_run 60 (by kernel_rfl)
theorem int_58 : WP tpB 58 [oneNode 58, .int .i64 9] = some (.tup [oneNat 58, .bool true]) := WP_run 60 (by kernel_rfl)
theorem bits_58 : WP tpB 59 [oneNat 58] = some (.int .i64 6) := WP_run 60 (by kernel_rfl)
theorem int_59 : WP tpB 58 [oneNode 59, .int .i64 9] = some (.tup [oneNat 59, .bool true]) := WP_run 60 (by kernel_rfl)
theorem bits_59 : WP tpB 59 [oneNat 59] = some (.int .i64 6) := WP_run 60 (by kernel_rfl)
theorem int_60 : WP tpB 58 [oneNode 60, .int .i64 9] = some (.tup [oneNat 60, .bool true]) := WP_run 60 (by kernel_rfl)
theorem bits_60 : WP tpB 59 [oneNat 60] = some (.int .i64 6) := WP_run 60 (by kernel_rfl)
theorem int_61 : WP tpB 58 [oneNode 61, .int .i64 9] = some (.tup [oneNat 61, .bool true]) := WP_run 60 (by kernel_rfl)
theorem bits_61 : WP tpB 59 [oneNat 61] = some (.int .i64 6) := WP_run 60 (by kernel_rfl)
theorem int_62 : WP tpB 58 [oneNode 62, .int .i64 9] = some (.tup [oneNat 62, .bool true]) := WP_run 60 (by kernel_rfl)
theorem bits_62 : WP tpB 59 [oneNat 62] = some (.int .i64 6) := WP_run 60 (by kernel_rfl)
theorem int_63 : WP tpB 58 [oneNode 63, .int .i64 9] = some (.tup [oneNat 63, .bool true]) := WP_run 60 (by kernel_rfl)
theorem bits_63 : WP tpB 59 [oneNat 63] = some (.int .i64 6) := WP_run 60 (by kernel_rfl)
theorem int_64 : WP tpB 58 [oneNode 64, .int .i64 9] = some (.tup [oneNat 64, .bool true]) := WP_run 60 (by kernel_rfl)
theorem bits_64 : WP tpB 59 [oneNat 64] = some (.int .i64 7) := WP_run 60 (by kernel_rfl)
theorem int_65 : WP tpB 58 [oneNode 65, .int .i64 9] = some (.tup [oneNat 65, .bool true]) := WP_run 60 (by kernel_rfl)
theorem bits_65 : WP tpB 59 [oneNat 65] = some (.int .i64 7) := WP_run 60 (by kernel_rfl)
theorem int_66 : WP tpB 58 [oneNode 66, .int .i64 9] = some (.tup [oneNat 66, .bool true]) := WP_run 60 (by kernel_rfl)
theorem bits_66 : WP tpB 59 [oneNat 66] = some (.int .i64 7) := WP_run 60 (by kernel_rfl)
theorem int_67 : WP tpB 58 [oneNode 67, .int .i64 9] = some (.tup [oneNat 67, .bool true]) := WP_run 60 (by kernel_rfl)
theorem bits_67 : WP tpB 59 [oneNat 67] = some (.int .i64 7) := WP_run 60 (by kernel_rfl)
theorem int_68 : WP tpB 58 [oneNode 68, .int .i64 9] = some (.tup [oneNat 68, .bool true]) := WP_run 60 (by kernel_rfl)
theorem bits_68 : WP tpB 59 [oneNat 68] = some (.int .i64 7) := WP_run 60 (by kernel_rfl)
theorem int_69 : WP tpB 58 [oneNode 69, .int .i64 9] = some (.tup [oneNat 69, .bool true]) := WP_run 60 (by kernel_rfl)
theorem bits_69 : WP tpB 59 [oneNat 69] = some (.int .i64 7) := WP_run 60 (by kernel_rfl)
theorem int_70 : WP tpB 58 [oneNode 70, .int .i64 9] = some (.tup [oneNat 70, .bool true]) := WP_run 60 (by kernel_rfl)
theorem bits_70 : WP tpB 59 [oneNat 70] = some (.int .i64 7) := WP_run 60 (by kernel_rfl)
theorem int_71 : WP tpB 58 [oneNode 71, .int .i64 9] = some (.tup [oneNat 71, .bool true]) := WP_run 60 (by kernel_rfl)
theorem bits_71 : WP tpB 59 [oneNat 71] = some (.int .i64 7) := WP_run 60 (by kernel_rfl)
theorem int_72 : WP tpB 58 [oneNode 72, .int .i64 9] = some (.tup [oneNat 72, .bool true]) := WP_run 60 (by kernel_rfl)
theorem bits_72 : WP tpB 59 [oneNat 72] = some (.int .i64 7) := WP_run 60 (by kernel_rfl)
theorem int_73 : WP tpB 58 [oneNode 73, .int .i64 9] = some (.tup [oneNat 73, .bool true]) := WP_run 60 (by kernel_rfl)
theorem bits_73 : WP tpB 59 [oneNat 73] = some (.int .i64 7) := WP_run 60 (by kernel_rfl)
theorem int_74 : WP tpB 58 [oneNode 74, .int .i64 9] = some (.tup [oneNat 74, .bool true]) := WP_run 60 (by kernel_rfl)
theorem bits_74 : WP tpB 59 [oneNat 74] = some (.int .i64 7) := WP_run 60 (by kernel_rfl)
theorem int_75 : WP tpB 58 [oneNode 75, .int .i64 9] = some (.tup [oneNat 75, .bool true]) := WP_run 60 (by kernel_rfl)
theorem bits_75 : WP tpB 59 [oneNat 75] = some (.int .i64 7) := WP_run 60 (by kernel_rfl)
theorem int_76 : WP tpB 58 [oneNode 76, .int .i64 9] = some (.tup [oneNat 76, .bool true]) := WP_run 60 (by kernel_rfl)
theorem bits_76 : WP tpB 59 [oneNat 76] = some (.int .i64 7) := WP_run 60 (by kernel_rfl)
theorem int_77 : WP tpB 58 [oneNode 77, .int .i64 9] = some (.tup [oneNat 77, .bool true]) := WP_run 60 (by kernel_rfl)
theorem bits_77 : WP tpB 59 [oneNat 77] = some (.int .i64 7) := WP_run 60 (by kernel_rfl)
theorem int_78 : WP tpB 58 [oneNode 78, .int .i64 9] = some (.tup [oneNat 78, .bool true]) := WP_run 60 (by kernel_rfl)
theorem bits_78 : WP tpB 59 [oneNat 78] = some (.int .i64 7) := WP_run 60 (by kernel_rfl)
theorem int_79 : WP tpB 58 [oneNode 79, .int .i64 9] = some (.tup [oneNat 79, .bool true]) := WP_run 60 (by kernel_rfl)
theorem bits_79 : WP tpB 59 [oneNat 79] = some (.int .i64 7) := WP_run 60 (by kernel_rfl)
theorem int_80 : WP tpB 58 [oneNode 80, .int .i64 9] = some (.tup [oneNat 80, .bool true]) := WP_run 60 (by kernel_rfl)
theorem bits_80 : WP tpB 59 [oneNat 80] = some (.int .i64 7) := WP_run 60 (by kernel_rfl)
theorem int_81 : WP tpB 58 [oneNode 81, .int .i64 9] = some (.tup [oneNat 81, .bool true]) := WP_run 60 (by kernel_rfl)
theorem bits_81 : WP tpB 59 [oneNat 81] = some (.int .i64 7) := WP_run 60 (by kernel_rfl)
theorem int_82 : WP tpB 58 [oneNode 82, .int .i64 9] = some (.tup [oneNat 82, .bool true]) := WP_run 60 (by kernel_rfl)
theorem bits_82 : WP tpB 59 [oneNat 82] = some (.int .i64 7) := WP_run 60 (by kernel_rfl)
theorem int_83 : WP tpB 58 [oneNode 83, .int .i64 9] = some (.tup [oneNat 83, .bool true]) := WP_run 60 (by kernel_rfl)
theorem bits_83 : WP tpB 59 [oneNat 83] = some (.int .i64 7) := WP_run 60 (by kernel_rfl)
theorem int_84 : WP tpB 58 [oneNode 84, .int .i64 9] = some (.tup [oneNat 84, .bool true]) := WP_run 60 (by kernel_rfl)
theorem bits_84 : WP tpB 59 [oneNat 84] = some (.int .i64 7) := WP_run 60 (by kernel_rfl)
theorem int_85 : WP tpB 58 [oneNode 85, .int .i64 9] = some (.tup [oneNat 85, .bool true]) := WP_run 60 (by kernel_rfl)
theorem bits_85 : WP tpB 59 [oneNat 85] = some (.int .i64 7) := WP_run 60 (by kernel_rfl)
theorem int_86 : WP tpB 58 [oneNode 86, .int .i64 9] = some (.tup [oneNat 86, .bool true]) := WP_run 60 (by kernel_rfl)
theorem bits_86 : WP tpB 59 [oneNat 86] = some (.int .i64 7) := WP_run 60 (by kernel_rfl)
theorem int_87 : WP tpB 58 [oneNode 87, .int .i64 9] = some (.tup [oneNat 87, .bool true]) := WP_run 60 (by kernel_rfl)
theorem bits_87 : WP tpB 59 [oneNat 87] = some (.int .i64 7) := WP_run 60 (by kernel_rfl)
theorem int_88 : WP tpB 58 [oneNode 88, .int .i64 9] = some (.tup [oneNat 88, .bool true]) := WP_run 60 (by kernel_rfl)
theorem bits_88 : WP tpB 59 [oneNat 88] = some (.int .i64 7) := WP_run 60 (by kernel_rfl)
theorem int_89 : WP tpB 58 [oneNode 89, .int .i64 9] = some (.tup [oneNat 89, .bool true]) := WP_run 60 (by kernel_rfl)
theorem bits_89 : WP tpB 59 [oneNat 89] = some (.int .i64 7) := WP_run 60 (by kernel_rfl)
theorem int_90 : WP tpB 58 [oneNode 90, .int .i64 9] = some (.tup [oneNat 90, .bool true]) := WP_run 60 (by kernel_rfl)
theorem bits_90 : WP tpB 59 [oneNat 90] = some (.int .i64 7) := WP_run 60 (by kernel_rfl)
theorem int_91 : WP tpB 58 [oneNode 91, .int .i64 9] = some (.tup [oneNat 91, .bool true]) := WP_run 60 (by kernel_rfl)
theorem bits_91 : WP tpB 59 [oneNat 91] = some (.int .i64 7) := WP_run 60 (by kernel_rfl)
theorem int_92 : WP tpB 58 [oneNode 92, .int .i64 9] = some (.tup [oneNat 92, .bool true]) := WP_run 60 (by kernel_rfl)
theorem bits_92 : WP tpB 59 [oneNat 92] = some (.int .i64 7) := WP_run 60 (by kernel_rfl)
theorem int_93 : WP tpB 58 [oneNode 93, .int .i64 9] = some (.tup [oneNat 93, .bool true]) := WP_run 60 (by kernel_rfl)
theorem bits_93 : WP tpB 59 [oneNat 93] = some (.int .i64 7) := WP_run 60 (by kernel_rfl)
theorem int_94 : WP tpB 58 [oneNode 94, .int .i64 9] = some (.tup [oneNat 94, .bool true]) := WP_run 60 (by kernel_rfl)
theorem bits_94 : WP tpB 59 [oneNat 94] = some (.int .i64 7) := WP_run 60 (by kernel_rfl)
theorem int_95 : WP tpB 58 [oneNode 95, .int .i64 9] = some (.tup [oneNat 95, .bool true]) := WP_run 60 (by kernel_rfl)
theorem bits_95 : WP tpB 59 [oneNat 95] = some (.int .i64 7) := WP_run 60 (by kernel_rfl)
theorem int_96 : WP tpB 58 [oneNode 96, .int .i64 9] = some (.tup [oneNat 96, .bool true]) := WP_run 60 (by kernel_rfl)
theorem bits_96 : WP tpB 59 [oneNat 96] = some (.int .i64 7) := WP_run 60 (by kernel_rfl)
theorem int_97 : WP tpB 58 [oneNode 97, .int .i64 9] = some (.tup [oneNat 97, .bool true]) := WP_run 60 (by kernel_rfl)
theorem bits_97 : WP tpB 59 [oneNat 97] = some (.int .i64 7) := WP_run 60 (by kernel_rfl)
theorem int_98 : WP tpB 58 [oneNode 98, .int .i64 9] = some (.tup [oneNat 98, .bool true]) := WP_run 60 (by kernel_rfl)
theorem bits_98 : WP tpB 59 [oneNat 98] = some (.int .i64 7) := WP_run 60 (by kernel_rfl)
theorem int_99 : WP tpB 58 [oneNode 99, .int .i64 9] = some (.tup [oneNat 99, .bool true]) := WP_run 60 (by kernel_rfl)
theorem bits_99 : WP tpB 59 [oneNat 99] = some (.int .i64 7) := WP_run 60 (by kernel_rfl)
theorem int_100 : WP tpB 58 [oneNode 100, .int .i64 9] = some (.tup [oneNat 100, .bool true]) := WP_run 60 (by kernel_rfl)
theorem bits_100 : WP tpB 59 [oneNat 100] = some (.int .i64 7) := WP_run 60 (by kernel_rfl)
theorem int_one : ∀ p, p ≤ 100 → WP tpB 58 [oneNode p, .int .i64 9] = some (.tup [oneNat p, .bool true])
  | 0, _ => int_0
  | 1, _ => int_1
  | 2, _ => int_2
  | 3, _ => int_3
  | 4, _ => int_4
  | 5, _ => int_5
  | 6, _ => int_6
  | 7, _ => int_7
  | 8, _ => int_8
  | 9, _ => int_9
  | 10, _ => int_10
  | 11, _ => int_11
  | 12, _ => int_12
  | 13, _ => int_13
  | 14, _ => int_14
  | 15, _ => int_15
  | 16, _ => int_16
  | 17, _ => int_17
  | 18, _ => int_18
  | 19, _ => int_19
  | 20, _ => int_20
  | 21, _ => int_21
  | 22, _ => int_22
  | 23, _ => int_23
  | 24, _ => int_24
  | 25, _ => int_25
  | 26, _ => int_26
  | 27, _ => int_27
  | 28, _ => int_28
  | 29, _ => int_29
  | 30, _ => int_30
  | 31, _ => int_31
  | 32, _ => int_32
  | 33, _ => int_33
  | 34, _ => int_34
  | 35, _ => int_35
  | 36, _ => int_36
  | 37, _ => int_37
  | 38, _ => int_38
  | 39, _ => int_39
  | 40, _ => int_40
  | 41, _ => int_41
  | 42, _ => int_42
  | 43, _ => int_43
  | 44, _ => int_44
  | 45, _ => int_45
  | 46, _ => int_46
  | 47, _ => int_47
  | 48, _ => int_48
  | 49, _ => int_49
  | 50, _ => int_50
  | 51, _ => int_51
  | 52, _ => int_52
  | 53, _ => int_53
  | 54, _ => int_54
  | 55, _ => int_55
  | 56, _ => int_56
  | 57, _ => int_57
  | 58, _ => int_58
  | 59, _ => int_59
  | 60, _ => int_60
  | 61, _ => int_61
  | 62, _ => int_62
  | 63, _ => int_63
  | 64, _ => int_64
  | 65, _ => int_65
  | 66, _ => int_66
  | 67, _ => int_67
  | 68, _ => int_68
  | 69, _ => int_69
  | 70, _ => int_70
  | 71, _ => int_71
  | 72, _ => int_72
  | 73, _ => int_73
  | 74, _ => int_74
  | 75, _ => int_75
  | 76, _ => int_76
  | 77, _ => int_77
  | 78, _ => int_78
  | 79, _ => int_79
  | 80, _ => int_80
  | 81, _ => int_81
  | 82, _ => int_82
  | 83, _ => int_83
  | 84, _ => int_84
  | 85, _ => int_85
  | 86, _ => int_86
  | 87, _ => int_87
  | 88, _ => int_88
  | 89, _ => int_89
  | 90, _ => int_90
  | 91, _ => int_91
  | 92, _ => int_92
  | 93, _ => int_93
  | 94, _ => int_94
  | 95, _ => int_95
  | 96, _ => int_96
  | 97, _ => int_97
  | 98, _ => int_98
  | 99, _ => int_99
  | 100, _ => int_100
  | n + 101, h => by omega
theorem bits_one : ∀ p, p ≤ 100 → ∃ n : Int, n ≤ 64 ∧ WP tpB 59 [oneNat p] = some (.int .i64 n)
  | 0, _ => ⟨0, by decide, bits_0⟩
  | 1, _ => ⟨1, by decide, bits_1⟩
  | 2, _ => ⟨2, by decide, bits_2⟩
  | 3, _ => ⟨2, by decide, bits_3⟩
  | 4, _ => ⟨3, by decide, bits_4⟩
  | 5, _ => ⟨3, by decide, bits_5⟩
  | 6, _ => ⟨3, by decide, bits_6⟩
  | 7, _ => ⟨3, by decide, bits_7⟩
  | 8, _ => ⟨4, by decide, bits_8⟩
  | 9, _ => ⟨4, by decide, bits_9⟩
  | 10, _ => ⟨4, by decide, bits_10⟩
  | 11, _ => ⟨4, by decide, bits_11⟩
  | 12, _ => ⟨4, by decide, bits_12⟩
  | 13, _ => ⟨4, by decide, bits_13⟩
  | 14, _ => ⟨4, by decide, bits_14⟩
  | 15, _ => ⟨4, by decide, bits_15⟩
  | 16, _ => ⟨5, by decide, bits_16⟩
  | 17, _ => ⟨5, by decide, bits_17⟩
  | 18, _ => ⟨5, by decide, bits_18⟩
  | 19, _ => ⟨5, by decide, bits_19⟩
  | 20, _ => ⟨5, by decide, bits_20⟩
  | 21, _ => ⟨5, by decide, bits_21⟩
  | 22, _ => ⟨5, by decide, bits_22⟩
  | 23, _ => ⟨5, by decide, bits_23⟩
  | 24, _ => ⟨5, by decide, bits_24⟩
  | 25, _ => ⟨5, by decide, bits_25⟩
  | 26, _ => ⟨5, by decide, bits_26⟩
  | 27, _ => ⟨5, by decide, bits_27⟩
  | 28, _ => ⟨5, by decide, bits_28⟩
  | 29, _ => ⟨5, by decide, bits_29⟩
  | 30, _ => ⟨5, by decide, bits_30⟩
  | 31, _ => ⟨5, by decide, bits_31⟩
  | 32, _ => ⟨6, by decide, bits_32⟩
  | 33, _ => ⟨6, by decide, bits_33⟩
  | 34, _ => ⟨6, by decide, bits_34⟩
  | 35, _ => ⟨6, by decide, bits_35⟩
  | 36, _ => ⟨6, by decide, bits_36⟩
  | 37, _ => ⟨6, by decide, bits_37⟩
  | 38, _ => ⟨6, by decide, bits_38⟩
  | 39, _ => ⟨6, by decide, bits_39⟩
  | 40, _ => ⟨6, by decide, bits_40⟩
  | 41, _ => ⟨6, by decide, bits_41⟩
  | 42, _ => ⟨6, by decide, bits_42⟩
  | 43, _ => ⟨6, by decide, bits_43⟩
  | 44, _ => ⟨6, by decide, bits_44⟩
  | 45, _ => ⟨6, by decide, bits_45⟩
  | 46, _ => ⟨6, by decide, bits_46⟩
  | 47, _ => ⟨6, by decide, bits_47⟩
  | 48, _ => ⟨6, by decide, bits_48⟩
  | 49, _ => ⟨6, by decide, bits_49⟩
  | 50, _ => ⟨6, by decide, bits_50⟩
  | 51, _ => ⟨6, by decide, bits_51⟩
  | 52, _ => ⟨6, by decide, bits_52⟩
  | 53, _ => ⟨6, by decide, bits_53⟩
  | 54, _ => ⟨6, by decide, bits_54⟩
  | 55, _ => ⟨6, by decide, bits_55⟩
  | 56, _ => ⟨6, by decide, bits_56⟩
  | 57, _ => ⟨6, by decide, bits_57⟩
  | 58, _ => ⟨6, by decide, bits_58⟩
  | 59, _ => ⟨6, by decide, bits_59⟩
  | 60, _ => ⟨6, by decide, bits_60⟩
  | 61, _ => ⟨6, by decide, bits_61⟩
  | 62, _ => ⟨6, by decide, bits_62⟩
  | 63, _ => ⟨6, by decide, bits_63⟩
  | 64, _ => ⟨7, by decide, bits_64⟩
  | 65, _ => ⟨7, by decide, bits_65⟩
  | 66, _ => ⟨7, by decide, bits_66⟩
  | 67, _ => ⟨7, by decide, bits_67⟩
  | 68, _ => ⟨7, by decide, bits_68⟩
  | 69, _ => ⟨7, by decide, bits_69⟩
  | 70, _ => ⟨7, by decide, bits_70⟩
  | 71, _ => ⟨7, by decide, bits_71⟩
  | 72, _ => ⟨7, by decide, bits_72⟩
  | 73, _ => ⟨7, by decide, bits_73⟩
  | 74, _ => ⟨7, by decide, bits_74⟩
  | 75, _ => ⟨7, by decide, bits_75⟩
  | 76, _ => ⟨7, by decide, bits_76⟩
  | 77, _ => ⟨7, by decide, bits_77⟩
  | 78, _ => ⟨7, by decide, bits_78⟩
  | 79, _ => ⟨7, by decide, bits_79⟩
  | 80, _ => ⟨7, by decide, bits_80⟩
  | 81, _ => ⟨7, by decide, bits_81⟩
  | 82, _ => ⟨7, by decide, bits_82⟩
  | 83, _ => ⟨7, by decide, bits_83⟩
  | 84, _ => ⟨7, by decide, bits_84⟩
  | 85, _ => ⟨7, by decide, bits_85⟩
  | 86, _ => ⟨7, by decide, bits_86⟩
  | 87, _ => ⟨7, by decide, bits_87⟩
  | 88, _ => ⟨7, by decide, bits_88⟩
  | 89, _ => ⟨7, by decide, bits_89⟩
  | 90, _ => ⟨7, by decide, bits_90⟩
  | 91, _ => ⟨7, by decide, bits_91⟩
  | 92, _ => ⟨7, by decide, bits_92⟩
  | 93, _ => ⟨7, by decide, bits_93⟩
  | 94, _ => ⟨7, by decide, bits_94⟩
  | 95, _ => ⟨7, by decide, bits_95⟩
  | 96, _ => ⟨7, by decide, bits_96⟩
  | 97, _ => ⟨7, by decide, bits_97⟩
  | 98, _ => ⟨7, by decide, bits_98⟩
  | 99, _ => ⟨7, by decide, bits_99⟩
  | 100, _ => ⟨7, by decide, bits_100⟩
  | n + 101, h => by omega
end Go.Proofs
