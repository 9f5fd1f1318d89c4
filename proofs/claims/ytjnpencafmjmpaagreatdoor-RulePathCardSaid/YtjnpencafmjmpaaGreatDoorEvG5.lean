/- RulePath: what each part answers. -/
import Derived.Test.YtjnpencafmjmpaaGreatDoorEvG4
namespace Go.Proofs
open Go.Ev
def caV (p : Int) : List PV := [.sl 3 false [.int .u8 85, .int .u8 29, .int .u8 19], .bool true, .sl 8 false [.int .u8 48, .int .u8 6, .int .u8 1, .int .u8 1, .int .u8 255, .int .u8 2, .int .u8 1, .int .u8 p]]
def usV (d : Int) : List PV := [.sl 3 false [.int .u8 85, .int .u8 29, .int .u8 15], .bool true, .sl 4 false [.int .u8 3, .int .u8 2, .int .u8 0, .int .u8 d]]
def kids (p : Int) : List PV := [.int .u8 1, .sl 1 false [.int .u8 255], .sl 0 false [], .int .u8 2, .sl 1 false [.int .u8 p], .sl 0 false []]
theorem bits_d (d : Int) : WP tpC 9 [.sl 1 false [.int .u8 d]] = some (.agg [.int .u8 3, .sl 2 false [.int .u8 0, .int .u8 d], .sl 0 false []]) := WP_run 60 (by kernel_rfl)
theorem says_d (d : Int) : WP tpC 8 [.int .u8 15, .bool true, .agg [.int .u8 3, .sl 2 false [.int .u8 0, .int .u8 d], .sl 0 false []]] = some (.agg (usV d)) := WP_run 60 (by kernel_rfl)
theorem usage_p (p : Int) : WP tpC 13 [.sl 1 false (caV p)] = some (.tup [.int .u8 0, .bool false, .bool true]) := WP_run 60 (by kernel_rfl)
theorem usage_dp (d p : Int) : WP tpC 13 [.sl 2 false (usV d ++ caV p)] = some (.tup [.int .u8 d, .bool true, .bool true]) := WP_run 60 (by kernel_rfl)
theorem uses_p (p : Int) : WP tpC 14 [.sl 1 false (caV p)] = some (.tup [.sl 0 false [], .bool false, .bool true]) := WP_run 60 (by kernel_rfl)
theorem uses_dp (d p : Int) : WP tpC 14 [.sl 2 false (usV d ++ caV p)] = some (.tup [.sl 0 false [], .bool false, .bool true]) := WP_run 60 (by kernel_rfl)
theorem known_tp : WP tpC 6 [] = some (.bool true) := WP_run 60 (by kernel_rfl)
theorem value_p (p : Int) : WP tpC 29 [.sl 1 false (caV p), .int .u8 19] = some (.tup [.agg [.int .u8 48, .sl 0 false [], .sl 2 false (kids p)], .bool true, .bool true]) := WP_run 60 (by kernel_rfl)
theorem value_dp (d p : Int) : WP tpC 29 [.sl 2 false (usV d ++ caV p), .int .u8 19] = some (.tup [.agg [.int .u8 48, .sl 0 false [], .sl 2 false (kids p)], .bool true, .bool true]) := WP_run 60 (by kernel_rfl)
theorem seq_p (p : Int) : WP tpC 30 [.agg [.int .u8 48, .sl 0 false [], .sl 2 false (kids p)], .int .u8 48] = some (.tup [.sl 2 false (kids p), .bool true]) := WP_run 60 (by kernel_rfl)
theorem bool_t : WP tpC 31 [.agg [.int .u8 1, .sl 1 false [.int .u8 255], .sl 0 false []]] = some (.tup [.bool true, .bool true]) := WP_run 60 (by kernel_rfl)
theorem bool_r : WP tpC 20 [.bool true] = some (.agg [.int .u8 1, .sl 1 false [.int .u8 255], .sl 0 false []]) := WP_run 60 (by kernel_rfl)
theorem seq_r (p : Int) : WP tpC 19 [.int .u8 48, .sl 2 false (kids p)] = some (.agg [.int .u8 48, .sl 0 false [], .sl 2 false (kids p)]) := WP_run 60 (by kernel_rfl)
theorem says_r (p : Int) : WP tpC 8 [.int .u8 19, .bool true, .agg [.int .u8 48, .sl 0 false [], .sl 2 false (kids p)]] = some (.agg (caV p)) := WP_run 60 (by kernel_rfl)
theorem small_0 : WP tpC 21 [.int .u64 0] = some (.agg [.int .u8 2, .sl 1 false [.int .u8 0], .sl 0 false []]) := WP_run 60 (by kernel_rfl)
theorem small_1 : WP tpC 21 [.int .u64 1] = some (.agg [.int .u8 2, .sl 1 false [.int .u8 1], .sl 0 false []]) := WP_run 60 (by kernel_rfl)
theorem small_2 : WP tpC 21 [.int .u64 2] = some (.agg [.int .u8 2, .sl 1 false [.int .u8 2], .sl 0 false []]) := WP_run 60 (by kernel_rfl)
theorem small_3 : WP tpC 21 [.int .u64 3] = some (.agg [.int .u8 2, .sl 1 false [.int .u8 3], .sl 0 false []]) := WP_run 60 (by kernel_rfl)
theorem small_4 : WP tpC 21 [.int .u64 4] = some (.agg [.int .u8 2, .sl 1 false [.int .u8 4], .sl 0 false []]) := WP_run 60 (by kernel_rfl)
theorem small_5 : WP tpC 21 [.int .u64 5] = some (.agg [.int .u8 2, .sl 1 false [.int .u8 5], .sl 0 false []]) := WP_run 60 (by kernel_rfl)
theorem small_6 : WP tpC 21 [.int .u64 6] = some (.agg [.int .u8 2, .sl 1 false [.int .u8 6], .sl 0 false []]) := WP_run 60 (by kernel_rfl)
theorem small_7 : WP tpC 21 [.int .u64 7] = some (.agg [.int .u8 2, .sl 1 false [.int .u8 7], .sl 0 false []]) := WP_run 60 (by kernel_rfl)
theorem small_8 : WP tpC 21 [.int .u64 8] = some (.agg [.int .u8 2, .sl 1 false [.int .u8 8], .sl 0 false []]) := WP_run 60 (by kernel_rfl)
theorem small_9 : WP tpC 21 [.int .u64 9] = some (.agg [.int .u8 2, .sl 1 false [.int .u8 9], .sl 0 false []]) := WP_run 60 (by kernel_rfl)
theorem small_10 : WP tpC 21 [.int .u64 10] = some (.agg [.int .u8 2, .sl 1 false [.int .u8 10], .sl 0 false []]) := WP_run 60 (by kernel_rfl)
theorem small_11 : WP tpC 21 [.int .u64 11] = some (.agg [.int .u8 2, .sl 1 false [.int .u8 11], .sl 0 false []]) := WP_run 60 (by kernel_rfl)
theorem small_12 : WP tpC 21 [.int .u64 12] = some (.agg [.int .u8 2, .sl 1 false [.int .u8 12], .sl 0 false []]) := WP_run 60 (by kernel_rfl)
theorem small_13 : WP tpC 21 [.int .u64 13] = some (.agg [.int .u8 2, .sl 1 false [.int .u8 13], .sl 0 false []]) := WP_run 60 (by kernel_rfl)
theorem small_14 : WP tpC 21 [.int .u64 14] = some (.agg [.int .u8 2, .sl 1 false [.int .u8 14], .sl 0 false []]) := WP_run 60 (by kernel_rfl)
theorem small_15 : WP tpC 21 [.int .u64 15] = some (.agg [.int .u8 2, .sl 1 false [.int .u8 15], .sl 0 false []]) := WP_run 60 (by kernel_rfl)
theorem small_16 : WP tpC 21 [.int .u64 16] = some (.agg [.int .u8 2, .sl 1 false [.int .u8 16], .sl 0 false []]) := WP_run 60 (by kernel_rfl)
theorem small_17 : WP tpC 21 [.int .u64 17] = some (.agg [.int .u8 2, .sl 1 false [.int .u8 17], .sl 0 false []]) := WP_run 60 (by kernel_rfl)
theorem small_18 : WP tpC 21 [.int .u64 18] = some (.agg [.int .u8 2, .sl 1 false [.int .u8 18], .sl 0 false []]) := WP_run 60 (by kernel_rfl)
theorem small_19 : WP tpC 21 [.int .u64 19] = some (.agg [.int .u8 2, .sl 1 false [.int .u8 19], .sl 0 false []]) := WP_run 60 (by kernel_rfl)
theorem small_20 : WP tpC 21 [.int .u64 20] = some (.agg [.int .u8 2, .sl 1 false [.int .u8 20], .sl 0 false []]) := WP_run 60 (by kernel_rfl)
theorem small_21 : WP tpC 21 [.int .u64 21] = some (.agg [.int .u8 2, .sl 1 false [.int .u8 21], .sl 0 false []]) := WP_run 60 (by kernel_rfl)
theorem small_22 : WP tpC 21 [.int .u64 22] = some (.agg [.int .u8 2, .sl 1 false [.int .u8 22], .sl 0 false []]) := WP_run 60 (by kernel_rfl)
theorem small_23 : WP tpC 21 [.int .u64 23] = some (.agg [.int .u8 2, .sl 1 false [.int .u8 23], .sl 0 false []]) := WP_run 60 (by kernel_rfl)
theorem small_24 : WP tpC 21 [.int .u64 24] = some (.agg [.int .u8 2, .sl 1 false [.int .u8 24], .sl 0 false []]) := WP_run 60 (by kernel_rfl)
theorem small_25 : WP tpC 21 [.int .u64 25] = some (.agg [.int .u8 2, .sl 1 false [.int .u8 25], .sl 0 false []]) := WP_run 60 (by kernel_rfl)
theorem small_26 : WP tpC 21 [.int .u64 26] = some (.agg [.int .u8 2, .sl 1 false [.int .u8 26], .sl 0 false []]) := WP_run 60 (by kernel_rfl)
theorem small_27 : WP tpC 21 [.int .u64 27] = some (.agg [.int .u8 2, .sl 1 false [.int .u8 27], .sl 0 false []]) := WP_run 60 (by kernel_rfl)
theorem small_28 : WP tpC 21 [.int .u64 28] = some (.agg [.int .u8 2, .sl 1 false [.int .u8 28], .sl 0 false []]) := WP_run 60 (by kernel_rfl)
theorem small_29 : WP tpC 21 [.int .u64 29] = some (.agg [.int .u8 2, .sl 1 false [.int .u8 29], .sl 0 false []]) := WP_run 60 (by kernel_rfl)
theorem small_30 : WP tpC 21 [.int .u64 30] = some (.agg [.int .u8 2, .sl 1 false [.int .u8 30], .sl 0 false []]) := WP_run 60 (by kernel_rfl)
theorem small_31 : WP tpC 21 [.int .u64 31] = some (.agg [.int .u8 2, .sl 1 false [.int .u8 31], .sl 0 false []]) := WP_run 60 (by kernel_rfl)
theorem small_32 : WP tpC 21 [.int .u64 32] = some (.agg [.int .u8 2, .sl 1 false [.int .u8 32], .sl 0 false []]) := WP_run 60 (by kernel_rfl)
theorem small_33 : WP tpC 21 [.int .u64 33] = some (.agg [.int .u8 2, .sl 1 false [.int .u8 33], .sl 0 false []]) := WP_run 60 (by kernel_rfl)
theorem small_34 : WP tpC 21 [.int .u64 34] = some (.agg [.int .u8 2, .sl 1 false [.int .u8 34], .sl 0 false []]) := WP_run 60 (by kernel_rfl)
theorem small_35 : WP tpC 21 [.int .u64 35] = some (.agg [.int .u8 2, .sl 1 false [.int .u8 35], .sl 0 false []]) := WP_run 60 (by kernel_rfl)
theorem small_36 : WP tpC 21 [.int .u64 36] = some (.agg [.int .u8 2, .sl 1 false [.int .u8 36], .sl 0 false []]) := WP_run 60 (by kernel_rfl)
theorem small_37 : WP tpC 21 [.int .u64 37] = some (.agg [.int .u8 2, .sl 1 false [.int .u8 37], .sl 0 false []]) := WP_run 60 (by kernel_rfl)
theorem small_38 : WP tpC 21 [.int .u64 38] = some (.agg [.int .u8 2, .sl 1 false [.int .u8 38], .sl 0 false []]) := WP_run 60 (by kernel_rfl)
theorem small_39 : WP tpC 21 [.int .u64 39] = some (.agg [.int .u8 2, .sl 1 false [.int .u8 39], .sl 0 false []]) := WP_run 60 (by kernel_rfl)
theorem small_40 : WP tpC 21 [.int .u64 40] = some (.agg [.int .u8 2, .sl 1 false [.int .u8 40], .sl 0 false []]) := WP_run 60 (by kernel_rfl)
theorem small_41 : WP tpC 21 [.int .u64 41] = some (.agg [.int .u8 2, .sl 1 false [.int .u8 41], .sl 0 false []]) := WP_run 60 (by kernel_rfl)
theorem small_42 : WP tpC 21 [.int .u64 42] = some (.agg [.int .u8 2, .sl 1 false [.int .u8 42], .sl 0 false []]) := WP_run 60 (by kernel_rfl)
theorem small_43 : WP tpC 21 [.int .u64 43] = some (.agg [.int .u8 2, .sl 1 false [.int .u8 43], .sl 0 false []]) := WP_run 60 (by kernel_rfl)
theorem small_44 : WP tpC 21 [.int .u64 44] = some (.agg [.int .u8 2, .sl 1 false [.int .u8 44], .sl 0 false []]) := WP_run 60 (by kernel_rfl)
theorem small_45 : WP tpC 21 [.int .u64 45] = some (.agg [.int .u8 2, .sl 1 false [.int .u8 45], .sl 0 false []]) := WP_run 60 (by kernel_rfl)
theorem small_46 : WP tpC 21 [.int .u64 46] = some (.agg [.int .u8 2, .sl 1 false [.int .u8 46], .sl 0 false []]) := WP_run 60 (by kernel_rfl)
theorem small_47 : WP tpC 21 [.int .u64 47] = some (.agg [.int .u8 2, .sl 1 false [.int .u8 47], .sl 0 false []]) := WP_run 60 (by kernel_rfl)
theorem small_48 : WP tpC 21 [.int .u64 48] = some (.agg [.int .u8 2, .sl 1 false [.int .u8 48], .sl 0 false []]) := WP_run 60 (by kernel_rfl)
theorem small_49 : WP tpC 21 [.int .u64 49] = some (.agg [.int .u8 2, .sl 1 false [.int .u8 49], .sl 0 false []]) := WP_run 60 (by kernel_rfl)
theorem small_50 : WP tpC 21 [.int .u64 50] = some (.agg [.int .u8 2, .sl 1 false [.int .u8 50], .sl 0 false []]) := WP_run 60 (by kernel_rfl)
theorem small_51 : WP tpC 21 [.int .u64 51] = some (.agg [.int .u8 2, .sl 1 false [.int .u8 51], .sl 0 false []]) := WP_run 60 (by kernel_rfl)
theorem small_52 : WP tpC 21 [.int .u64 52] = some (.agg [.int .u8 2, .sl 1 false [.int .u8 52], .sl 0 false []]) := WP_run 60 (by kernel_rfl)
theorem small_53 : WP tpC 21 [.int .u64 53] = some (.agg [.int .u8 2, .sl 1 false [.int .u8 53], .sl 0 false []]) := WP_run 60 (by kernel_rfl)
theorem small_54 : WP tpC 21 [.int .u64 54] = some (.agg [.int .u8 2, .sl 1 false [.int .u8 54], .sl 0 false []]) := WP_run 60 (by kernel_rfl)
theorem small_55 : WP tpC 21 [.int .u64 55] = some (.agg [.int .u8 2, .sl 1 false [.int .u8 55], .sl 0 false []]) := WP_run 60 (by kernel_rfl)
theorem small_56 : WP tpC 21 [.int .u64 56] = some (.agg [.int .u8 2, .sl 1 false [.int .u8 56], .sl 0 false []]) := WP_run 60 (by kernel_rfl)
theorem small_57 : WP tpC 21 [.int .u64 57] = some (.agg [.int .u8 2, .sl 1 false [.int .u8 57], .sl 0 false []]) := WP_run 60 (by kernel_rfl)
theorem small_58 : WP tpC 21 [.int .u64 58] = some (.agg [.int .u8 2, .sl 1 false [.int .u8 58], .sl 0 false []]) := WP_run 60 (by kernel_rfl)
theorem small_59 : WP tpC 21 [.int .u64 59] = some (.agg [.int .u8 2, .sl 1 false [.int .u8 59], .sl 0 false []]) := WP_run 60 (by kernel_rfl)
theorem small_60 : WP tpC 21 [.int .u64 60] = some (.agg [.int .u8 2, .sl 1 false [.int .u8 60], .sl 0 false []]) := WP_run 60 (by kernel_rfl)
theorem small_61 : WP tpC 21 [.int .u64 61] = some (.agg [.int .u8 2, .sl 1 false [.int .u8 61], .sl 0 false []]) := WP_run 60 (by kernel_rfl)
theorem small_62 : WP tpC 21 [.int .u64 62] = some (.agg [.int .u8 2, .sl 1 false [.int .u8 62], .sl 0 false []]) := WP_run 60 (by kernel_rfl)
theorem small_63 : WP tpC 21 [.int .u64 63] = some (.agg [.int .u8 2, .sl 1 false [.int .u8 63], .sl 0 false []]) := WP_run 60 (by kernel_rfl)
theorem small_64 : WP tpC 21 [.int .u64 64] = some (.agg [.int .u8 2, .sl 1 false [.int .u8 64], .sl 0 false []]) := WP_run 60 (by kernel_rfl)
theorem small_65 : WP tpC 21 [.int .u64 65] = some (.agg [.int .u8 2, .sl 1 false [.int .u8 65], .sl 0 false []]) := WP_run 60 (by kernel_rfl)
theorem small_66 : WP tpC 21 [.int .u64 66] = some (.agg [.int .u8 2, .sl 1 false [.int .u8 66], .sl 0 false []]) := WP_run 60 (by kernel_rfl)
theorem small_67 : WP tpC 21 [.int .u64 67] = some (.agg [.int .u8 2, .sl 1 false [.int .u8 67], .sl 0 false []]) := WP_run 60 (by kernel_rfl)
theorem small_68 : WP tpC 21 [.int .u64 68] = some (.agg [.int .u8 2, .sl 1 false [.int .u8 68], .sl 0 false []]) := WP_run 60 (by kernel_rfl)
theorem small_69 : WP tpC 21 [.int .u64 69] = some (.agg [.int .u8 2, .sl 1 false [.int .u8 69], .sl 0 false []]) := WP_run 60 (by kernel_rfl)
theorem small_70 : WP tpC 21 [.int .u64 70] = some (.agg [.int .u8 2, .sl 1 false [.int .u8 70], .sl 0 false []]) := WP_run 60 (by kernel_rfl)
theorem small_71 : WP tpC 21 [.int .u64 71] = some (.agg [.int .u8 2, .sl 1 false [.int .u8 71], .sl 0 false []]) := WP_run 60 (by kernel_rfl)
theorem small_72 : WP tpC 21 [.int .u64 72] = some (.agg [.int .u8 2, .sl 1 false [.int .u8 72], .sl 0 false []]) := WP_run 60 (by kernel_rfl)
theorem small_73 : WP tpC 21 [.int .u64 73] = some (.agg [.int .u8 2, .sl 1 false [.int .u8 73], .sl 0 false []]) := WP_run 60 (by kernel_rfl)
theorem small_74 : WP tpC 21 [.int .u64 74] = some (.agg [.int .u8 2, .sl 1 false [.int .u8 74], .sl 0 false []]) := WP_run 60 (by kernel_rfl)
theorem small_75 : WP tpC 21 [.int .u64 75] = some (.agg [.int .u8 2, .sl 1 false [.int .u8 75], .sl 0 false []]) := WP_run 60 (by kernel_rfl)
theorem small_76 : WP tpC 21 [.int .u64 76] = some (.agg [.int .u8 2, .sl 1 false [.int .u8 76], .sl 0 false []]) := WP_run 60 (by kernel_rfl)
theorem small_77 : WP tpC 21 [.int .u64 77] = some (.agg [.int .u8 2, .sl 1 false [.int .u8 77], .sl 0 false []]) := WP_run 60 (by kernel_rfl)
theorem small_78 : WP tpC 21 [.int .u64 78] = some (.agg [.int .u8 2, .sl 1 false [.int .u8 78], .sl 0 false []]) := WP_run 60 (by kernel_rfl)
theorem small_79 : WP tpC 21 [.int .u64 79] = some (.agg [.int .u8 2, .sl 1 false [.int .u8 79], .sl 0 false []]) := WP_run 60 (by kernel_rfl)
theorem small_80 : WP tpC 21 [.int .u64 80] = some (.agg [.int .u8 2, .sl 1 false [.int .u8 80], .sl 0 false []]) := WP_run 60 (by kernel_rfl)
theorem small_81 : WP tpC 21 [.int .u64 81] = some (.agg [.int .u8 2, .sl 1 false [.int .u8 81], .sl 0 false []]) := WP_run 60 (by kernel_rfl)
theorem small_82 : WP tpC 21 [.int .u64 82] = some (.agg [.int .u8 2, .sl 1 false [.int .u8 82], .sl 0 false []]) := WP_run 60 (by kernel_rfl)
theorem small_83 : WP tpC 21 [.int .u64 83] = some (.agg [.int .u8 2, .sl 1 false [.int .u8 83], .sl 0 false []]) := WP_run 60 (by kernel_rfl)
theorem small_84 : WP tpC 21 [.int .u64 84] = some (.agg [.int .u8 2, .sl 1 false [.int .u8 84], .sl 0 false []]) := WP_run 60 (by kernel_rfl)
theorem small_85 : WP tpC 21 [.int .u64 85] = some (.agg [.int .u8 2, .sl 1 false [.int .u8 85], .sl 0 false []]) := WP_run 60 (by kernel_rfl)
theorem small_86 : WP tpC 21 [.int .u64 86] = some (.agg [.int .u8 2, .sl 1 false [.int .u8 86], .sl 0 false []]) := WP_run 60 (by kernel_rfl)
theorem small_87 : WP tpC 21 [.int .u64 87] = some (.agg [.int .u8 2, .sl 1 false [.int .u8 87], .sl 0 false []]) := WP_run 60 (by kernel_rfl)
theorem small_88 : WP tpC 21 [.int .u64 88] = some (.agg [.int .u8 2, .sl 1 false [.int .u8 88], .sl 0 false []]) := WP_run 60 (by kernel_rfl)
theorem small_89 : WP tpC 21 [.int .u64 89] = some (.agg [.int .u8 2, .sl 1 false [.int .u8 89], .sl 0 false []]) := WP_run 60 (by kernel_rfl)
theorem small_90 : WP tpC 21 [.int .u64 90] = some (.agg [.int .u8 2, .sl 1 false [.int .u8 90], .sl 0 false []]) := WP_run 60 (by kernel_rfl)
theorem small_91 : WP tpC 21 [.int .u64 91] = some (.agg [.int .u8 2, .sl 1 false [.int .u8 91], .sl 0 false []]) := WP_run 60 (by kernel_rfl)
theorem small_92 : WP tpC 21 [.int .u64 92] = some (.agg [.int .u8 2, .sl 1 false [.int .u8 92], .sl 0 false []]) := WP_run 60 (by kernel_rfl)
theorem small_93 : WP tpC 21 [.int .u64 93] = some (.agg [.int .u8 2, .sl 1 false [.int .u8 93], .sl 0 false []]) := WP_run 60 (by kernel_rfl)
theorem small_94 : WP tpC 21 [.int .u64 94] = some (.agg [.int .u8 2, .sl 1 false [.int .u8 94], .sl 0 false []]) := WP_run 60 (by kernel_rfl)
theorem small_95 : WP tpC 21 [.int .u64 95] = some (.agg [.int .u8 2, .sl 1 false [.int .u8 95], .sl 0 false []]) := WP_run 60 (by kernel_rfl)
theorem small_96 : WP tpC 21 [.int .u64 96] = some (.agg [.int .u8 2, .sl 1 false [.int .u8 96], .sl 0 false []]) := WP_run 60 (by kernel_rfl)
theorem small_97 : WP tpC 21 [.int .u64 97] = some (.agg [.int .u8 2, .sl 1 false [.int .u8 97], .sl 0 false []]) := WP_run 60 (by kernel_rfl)
theorem small_98 : WP tpC 21 [.int .u64 98] = some (.agg [.int .u8 2, .sl 1 false [.int .u8 98], .sl 0 false []]) := WP_run 60 (by kernel_rfl)
theorem small_99 : WP tpC 21 [.int .u64 99] = some (.agg [.int .u8 2, .sl 1 false [.int .u8 99], .sl 0 false []]) := WP_run 60 (by kernel_rfl)
theorem small_100 : WP tpC 21 [.int .u64 100] = some (.agg [.int .u8 2, .sl 1 false [.int .u8 100], .sl 0 false []]) := WP_run 60 (by kernel_rfl)
theorem small_all : ∀ p : Nat, p ≤ 100 → WP tpC 21 [.int .u64 (p : Int)] = some (.agg [.int .u8 2, .sl 1 false [.int .u8 (p : Int)], .sl 0 false []])
  | 0, _ => small_0
  | 1, _ => small_1
  | 2, _ => small_2
  | 3, _ => small_3
  | 4, _ => small_4
  | 5, _ => small_5
  | 6, _ => small_6
  | 7, _ => small_7
  | 8, _ => small_8
  | 9, _ => small_9
  | 10, _ => small_10
  | 11, _ => small_11
  | 12, _ => small_12
  | 13, _ => small_13
  | 14, _ => small_14
  | 15, _ => small_15
  | 16, _ => small_16
  | 17, _ => small_17
  | 18, _ => small_18
  | 19, _ => small_19
  | 20, _ => small_20
  | 21, _ => small_21
  | 22, _ => small_22
  | 23, _ => small_23
  | 24, _ => small_24
  | 25, _ => small_25
  | 26, _ => small_26
  | 27, _ => small_27
  | 28, _ => small_28
  | 29, _ => small_29
  | 30, _ => small_30
  | 31, _ => small_31
  | 32, _ => small_32
  | 33, _ => small_33
  | 34, _ => small_34
  | 35, _ => small_35
  | 36, _ => small_36
  | 37, _ => small_37
  | 38, _ => small_38
  | 39, _ => small_39
  | 40, _ => small_40
  | 41, _ => small_41
  | 42, _ => small_42
  | 43, _ => small_43
  | 44, _ => small_44
  | 45, _ => small_45
  | 46, _ => small_46
  | 47, _ => small_47
  | 48, _ => small_48
  | 49, _ => small_49
  | 50, _ => small_50
  | 51, _ => small_51
  | 52, _ => small_52
  | 53, _ => small_53
  | 54, _ => small_54
  | 55, _ => small_55
  | 56, _ => small_56
  | 57, _ => small_57
  | 58, _ => small_58
  | 59, _ => small_59
  | 60, _ => small_60
  | 61, _ => small_61
  | 62, _ => small_62
  | 63, _ => small_63
  | 64, _ => small_64
  | 65, _ => small_65
  | 66, _ => small_66
  | 67, _ => small_67
  | 68, _ => small_68
  | 69, _ => small_69
  | 70, _ => small_70
  | 71, _ => small_71
  | 72, _ => small_72
  | 73, _ => small_73
  | 74, _ => small_74
  | 75, _ => small_75
  | 76, _ => small_76
  | 77, _ => small_77
  | 78, _ => small_78
  | 79, _ => small_79
  | 80, _ => small_80
  | 81, _ => small_81
  | 82, _ => small_82
  | 83, _ => small_83
  | 84, _ => small_84
  | 85, _ => small_85
  | 86, _ => small_86
  | 87, _ => small_87
  | 88, _ => small_88
  | 89, _ => small_89
  | 90, _ => small_90
  | 91, _ => small_91
  | 92, _ => small_92
  | 93, _ => small_93
  | 94, _ => small_94
  | 95, _ => small_95
  | 96, _ => small_96
  | 97, _ => small_97
  | 98, _ => small_98
  | 99, _ => small_99
  | 100, _ => small_100
  | n + 101, h => by omega
end Go.Proofs
