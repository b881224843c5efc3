/- Functions of the program, compiled, by a program (gen.py). -/
import Derived.Test.YtjeigcnaalleiaaDoorProg
import Derived.KernelRfl
import Derived.Test.YtjeigcnaalleiaaDoorM19
import Derived.Test.YtjeigcnaalleiaaDoorF1
set_option maxRecDepth 100000
namespace Go.Proofs.YtjeigcnaalleiaaDoor.F
open Go.Proofs.YtjeigcnaalleiaaDoor.M Go.Proofs Go.RowKit

/-- strings.splitSeq -/
def c_strings_splitSeq : CFn := ⟨8, .seq (.region [⟨some 3, .box (.tmp 0), none⟩,
    ⟨some 4, .box (.tmp 1), none⟩,
    ⟨some 5, .box (.tmp 2), none⟩,
    ⟨some 6, .mov (.con (.nilf)), none⟩])
  (.seq (.region [⟨some 7, .mkfn (.func 79) [] [(.tmp 4), (.tmp 3), (.tmp 5)], none⟩,
    ⟨some 6, .mov (.tmp 7), none⟩])
  (.ret)),
  [.tmp 6]⟩
theorem is_strings_splitSeq : IsFn Tryd.prog 63 c_strings_splitSeq := isFn_of [([], []), ([], []), ([], [])] (by kernel_rfl)

abbrev s_internal_strconv_Atoi_0 (v5 v6 v47 v48 v49 : AV) : List AV := [.any, undefA, .any, .any, .any, v5, v6, undefA, .any, undefA, undefA, .any, .any, .any, .any, .any, .any, .any, .any, .any, .any, .any, .any, .any, .any, .any, .any, .any, .any, .any, .any, .any, .any, .any, .any, .any, .any, .any, .any, .any, .any, .any, .any, .any, .any, undefA, .any, v47, v48, v49, .any, .any, .any, .any, .any, .any, .any, .any, .any, .any, .any, .any, .any, .any, undefA, undefA, undefA, undefA, undefA, undefA, undefA, undefA, undefA, undefA, undefA, undefA, undefA]
abbrev x_internal_strconv_Atoi_0 (v5 v6 : AV) : List AV := [.any, undefA, .any, .any, .any, v5, v6, undefA, .any, undefA, undefA, .any, .any, .any, .any, .any, .any, .any, .any, .any, .any, .any, .any, .any, .any, .any, .any, .any, .any, .any, .any, .any, .any, .any, .any, .any, .any, .any, .any, .any, .any, .any, .any, .any, .any, undefA, .any, .any, .any, .any, .any, .any, .any, .any, .any, .any, .any, .any, .any, .any, .any, .any, .any, .any, undefA, undefA, undefA, undefA, undefA, undefA, undefA, undefA, undefA, undefA, undefA, undefA, undefA]
abbrev l_internal_strconv_Atoi_0 : CC := .kill [0, 2, 3, 4, 8, 11, 12, 13, 14, 15, 16, 17, 18, 19, 20, 21, 22, 23, 24, 25, 26, 27, 28, 29, 30, 31, 32, 33, 34, 35, 36, 37, 38, 39, 40, 41, 42, 43, 44, 46, 50, 51, 52, 53, 54, 55, 56, 57, 58, 59, 60, 61, 62, 63] (.seq (.region [⟨some 50, .bin .lss (.tmp 49) (.tmp 48), none⟩])
  (.seq (.cond (.tmp 50) (.skip) (.kill [47, 48, 49, 50] (.exit 0)))
  (.seq (.block 1 (.seq (.region [⟨some 51, .iaddr 1 none (.tmp 47) (.tmp 49), none⟩,
    ⟨some 52, .load none (.tmp 51), none⟩,
    ⟨some 8, .mov (.tmp 52), none⟩])
  (.seq (.region [⟨some 53, .mov (.tmp 8), none⟩,
    ⟨some 54, .bin .sub (.tmp 53) (.con (.int .u8 48)), none⟩,
    ⟨some 8, .mov (.tmp 54), none⟩])
  (.seq (.seq (.region [⟨some 55, .mov (.tmp 8), none⟩,
    ⟨some 56, .bin .gtr (.tmp 55) (.con (.int .u8 9)), none⟩])
  (.cond (.tmp 56) (.seq (.region [⟨some 57, .mkif 123 (.con (.int .i64 2)), none⟩,
    ⟨some 2, .mov (.con (.int .i64 0)), none⟩,
    ⟨some 3, .mov (.tmp 57), none⟩])
  (.ret)) (.skip)))
  (.region [⟨some 58, .mov (.tmp 6), none⟩,
    ⟨some 59, .bin .mul (.tmp 58) (.con (.int .i64 10)), none⟩,
    ⟨some 60, .mov (.tmp 8), none⟩,
    ⟨some 61, .cInt .i64 (.tmp 60), none⟩,
    ⟨some 62, .bin .add (.tmp 59) (.tmp 61), none⟩,
    ⟨some 6, .mov (.tmp 62), none⟩])))))
  (.region [⟨some 63, .bin .add (.tmp 49) (.con (.int .i64 1)), none⟩,
    ⟨some 49, .mov (.tmp 63), none⟩]))))
/-- internal/strconv.Atoi -/
def c_internal_strconv_Atoi : CFn := ⟨77, .seq (.region [⟨some 2, .mov (.con (.int .i64 0)), none⟩,
    ⟨some 3, .mov (.con (.nili)), none⟩])
  (.seq (.region [⟨some 11, .mov (.tmp 0), none⟩,
    ⟨some 12, .lens (.tmp 11), none⟩,
    ⟨some 4, .mov (.tmp 12), none⟩])
  (.seq (.seq (.region [⟨some 13, .mov (.con (.bool false)), none⟩,
    ⟨some 14, .mov (.tmp 4), (some (13, true))⟩,
    ⟨some 15, .bin .lss (.con (.int .i64 0)) (.tmp 14), (some (13, true))⟩,
    ⟨some 16, .mov (.tmp 15), (some (13, true))⟩,
    ⟨some 17, .mov (.tmp 4), (some (16, true))⟩,
    ⟨some 18, .bin .lss (.tmp 17) (.con (.int .i64 10)), (some (16, true))⟩,
    ⟨some 19, .pick (.tmp 16) (.tmp 18) (.con (.bool false)), (some (13, true))⟩,
    ⟨some 20, .pick (.tmp 13) (.tmp 19) (.con (.bool false)), none⟩,
    ⟨some 21, .mov (.tmp 20), none⟩,
    ⟨some 22, .mov (.con (.bool true)), (some (21, false))⟩,
    ⟨some 23, .mov (.tmp 4), (some (22, true))⟩,
    ⟨some 24, .bin .lss (.con (.int .i64 0)) (.tmp 23), (some (22, true))⟩,
    ⟨some 25, .mov (.tmp 24), (some (22, true))⟩,
    ⟨some 26, .mov (.tmp 4), (some (25, true))⟩,
    ⟨some 27, .bin .lss (.tmp 26) (.con (.int .i64 19)), (some (25, true))⟩,
    ⟨some 28, .pick (.tmp 25) (.tmp 27) (.con (.bool false)), (some (22, true))⟩,
    ⟨some 29, .pick (.tmp 22) (.tmp 28) (.con (.bool false)), (some (21, false))⟩,
    ⟨some 30, .pick (.tmp 21) (.con (.bool true)) (.tmp 29), none⟩])
  (.cond (.tmp 30) (.seq (.region [⟨some 31, .mov (.tmp 0), none⟩,
    ⟨some 5, .mov (.tmp 31), none⟩])
  (.seq (.seq (.region [⟨some 32, .mov (.tmp 0), none⟩,
    ⟨some 33, .idxs (.tmp 32) (.con (.int .i64 0)), none⟩,
    ⟨some 34, .bin .eql (.tmp 33) (.con (.int .u8 45)), none⟩,
    ⟨some 35, .mov (.tmp 34), none⟩,
    ⟨some 36, .mov (.tmp 0), (some (35, false))⟩,
    ⟨some 37, .idxs (.tmp 36) (.con (.int .i64 0)), (some (35, false))⟩,
    ⟨some 38, .bin .eql (.tmp 37) (.con (.int .u8 43)), (some (35, false))⟩,
    ⟨some 39, .pick (.tmp 35) (.con (.bool true)) (.tmp 38), none⟩])
  (.cond (.tmp 39) (.seq (.region [⟨some 40, .mov (.tmp 0), none⟩,
    ⟨some 41, .slice none (.tmp 40) (some (.con (.int .i64 1))) none none, none⟩,
    ⟨some 0, .mov (.tmp 41), none⟩])
  (.seq (.region [⟨some 42, .mov (.tmp 0), none⟩,
    ⟨some 43, .lens (.tmp 42), none⟩,
    ⟨some 44, .bin .lss (.tmp 43) (.con (.int .i64 1)), none⟩])
  (.cond (.tmp 44) (.seq (.region [⟨some 45, .mkif 123 (.con (.int .i64 2)), none⟩,
    ⟨some 2, .mov (.con (.int .i64 0)), none⟩,
    ⟨some 3, .mov (.tmp 45), none⟩])
  (.ret)) (.skip)))) (.skip)))
  (.seq (.region [⟨some 6, .mov (.con (.int .i64 0)), none⟩])
  (.seq (.seq (.region [⟨some 46, .mov (.tmp 0), none⟩,
    ⟨some 47, .cStrBytes (.tmp 46), none⟩,
    ⟨some 48, .lenl (.tmp 47), none⟩,
    ⟨some 49, .mov (.con (.int .i64 0)), none⟩])
  (.block 0 (.kill [0, 2, 3, 4, 8, 11, 12, 13, 14, 15, 16, 17, 18, 19, 20, 21, 22, 23, 24, 25, 26, 27, 28, 29, 30, 31, 32, 33, 34, 35, 36, 37, 38, 39, 40, 41, 42, 43, 44, 46, 50, 51, 52, 53, 54, 55, 56, 57, 58, 59, 60, 61, 62, 63] (.loop l_internal_strconv_Atoi_0))))
  (.seq (.seq (.region [⟨some 64, .mov (.tmp 5), none⟩,
    ⟨some 65, .idxs (.tmp 64) (.con (.int .i64 0)), none⟩,
    ⟨some 66, .bin .eql (.tmp 65) (.con (.int .u8 45)), none⟩])
  (.cond (.tmp 66) (.region [⟨some 67, .mov (.tmp 6), none⟩,
    ⟨some 68, .un .neg (.tmp 67), none⟩,
    ⟨some 6, .mov (.tmp 68), none⟩]) (.skip)))
  (.seq (.region [⟨some 69, .mov (.tmp 6), none⟩,
    ⟨some 2, .mov (.tmp 69), none⟩,
    ⟨some 3, .mov (.con (.nili)), none⟩])
  (.ret))))))) (.skip)))
  (.seq (.region [⟨some 71, .mov (.tmp 0), none⟩,
    ⟨some 72, .call 82 [(.tmp 71), (.con (.int .i64 10)), (.con (.int .i64 0))], none⟩,
    ⟨some 70, .mov (.tmp 72), none⟩,
    ⟨some 73, .extract 70 0, none⟩,
    ⟨some 74, .extract 70 1, none⟩,
    ⟨some 9, .mov (.tmp 73), none⟩,
    ⟨some 10, .mov (.tmp 74), none⟩])
  (.seq (.region [⟨some 75, .mov (.tmp 9), none⟩,
    ⟨some 76, .mov (.tmp 10), none⟩,
    ⟨some 2, .mov (.tmp 75), none⟩,
    ⟨some 3, .mov (.tmp 76), none⟩])
  (.ret))))),
  [.tmp 2, .tmp 3]⟩
theorem is_internal_strconv_Atoi : IsFn Tryd.prog 64 c_internal_strconv_Atoi := isFn_of [([], []), ([], []), ([], []), ([], []), ([], []), ([], []), ([], []), ([], []), ([], []), ([], []), ([], []), ([0, 2, 3, 4, 8, 11, 12, 13, 14, 15, 16, 17, 18, 19, 20, 21, 22, 23, 24, 25, 26, 27, 28, 29, 30, 31, 32, 33, 34, 35, 36, 37, 38, 39, 40, 41, 42, 43, 44, 46, 50, 51, 52, 53, 54, 55, 56, 57, 58, 59, 60, 61, 62, 63], []), ([], []), ([47, 48, 49, 50], []), ([], []), ([], []), ([], []), ([], []), ([], []), ([], []), ([], []), ([], []), ([], []), ([], []), ([], []), ([], []), ([], []), ([], [])] (by kernel_rfl)

abbrev s_slices_IndexFunc_int_int_0 (v0 v1 v7 v8 : AV) : List AV := [v0, v1, undefA, undefA, .any, .any, .any, v7, v8, .any, .any, .any, .any, .any, .any, .any, .any, .any, .any]
abbrev x_slices_IndexFunc_int_int_0  : List AV := [.any, .any, undefA, undefA, .any, .any, .any, .any, .any, .any, .any, .any, .any, .any, .any, .any, .any, .any, .any]
abbrev l_slices_IndexFunc_int_int_0 : CC := .kill [4, 5, 6, 9, 10, 11, 12, 13, 14, 15, 16, 17, 18] (.seq (.region [⟨some 9, .bin .lss (.tmp 8) (.tmp 7), none⟩])
  (.seq (.cond (.tmp 9) (.skip) (.kill [0, 1, 7, 8, 9] (.exit 0)))
  (.seq (.block 1 (.seq (.region [⟨some 10, .mov (.tmp 8), none⟩,
    ⟨some 5, .mov (.tmp 10), none⟩])
  (.seq (.region [⟨some 11, .mov (.tmp 1), none⟩,
    ⟨some 12, .mov (.tmp 0), none⟩,
    ⟨some 13, .mov (.tmp 5), none⟩,
    ⟨some 14, .iaddr 1 none (.tmp 12) (.tmp 13), none⟩,
    ⟨some 15, .load none (.tmp 14), none⟩,
    ⟨some 16, .callv (.tmp 11) [(.tmp 15)], none⟩])
  (.cond (.tmp 16) (.seq (.region [⟨some 17, .mov (.tmp 5), none⟩,
    ⟨some 4, .mov (.tmp 17), none⟩])
  (.ret)) (.skip)))))
  (.region [⟨some 18, .bin .add (.tmp 8) (.con (.int .i64 1)), none⟩,
    ⟨some 8, .mov (.tmp 18), none⟩]))))
/-- slices.IndexFunc[[]int,int] -/
def c_slices_IndexFunc_int_int : CFn := ⟨19, .seq (.region [⟨some 4, .mov (.con (.int .i64 0)), none⟩])
  (.seq (.seq (.region [⟨some 6, .mov (.tmp 0), none⟩,
    ⟨some 7, .lenl (.tmp 6), none⟩,
    ⟨some 8, .mov (.con (.int .i64 0)), none⟩])
  (.block 0 (.kill [4, 5, 6, 9, 10, 11, 12, 13, 14, 15, 16, 17, 18] (.loop l_slices_IndexFunc_int_int_0))))
  (.seq (.region [⟨some 4, .mov (.con (.int .i64 (-1))), none⟩])
  (.ret))),
  [.tmp 4]⟩
theorem is_slices_IndexFunc_int_int : IsFn Tryd.prog 66 c_slices_IndexFunc_int_int := isFn_of [([], []), ([], []), ([4, 5, 6, 9, 10, 11, 12, 13, 14, 15, 16, 17, 18], []), ([], []), ([0, 1, 7, 8, 9], []), ([], []), ([], []), ([], []), ([], []), ([], []), ([], []), ([], [])] (by kernel_rfl)

/-- internal/strconv.Itoa -/
def c_internal_strconv_Itoa : CFn := ⟨5, .seq (.region [⟨some 2, .mov (.con (.str ⟨#[]⟩)), none⟩])
  (.seq (.region [⟨some 3, .mov (.tmp 0), none⟩,
    ⟨some 4, .pcall 88 [(.tmp 3), (.con (.int .i64 10))], none⟩,
    ⟨some 2, .mov (.tmp 4), none⟩])
  (.ret)),
  [.tmp 2]⟩
theorem is_internal_strconv_Itoa : IsFn Tryd.prog 68 c_internal_strconv_Itoa := isFn_of [([], []), ([], [1]), ([], [])] (by kernel_rfl)

abbrev s_regencyref01_num_0 (v0 v3 : AV) : List AV := [v0, undefA, .any, v3, undefA, .any, .any, .any, .any, .any, .any, .any, .any, .any, .any, .any, .any, .any, .any, .any, .any, undefA, undefA, undefA, undefA, undefA, undefA, undefA, undefA, undefA, undefA, undefA, undefA, undefA, undefA, undefA, undefA, undefA, undefA, undefA, undefA, undefA, undefA, undefA, undefA, undefA, undefA, undefA]
abbrev s_regencyref01_num_1 (v0 v4 : AV) : List AV := [v0, undefA, .any, undefA, v4, .any, .any, undefA, undefA, undefA, undefA, undefA, undefA, undefA, undefA, undefA, undefA, undefA, undefA, undefA, undefA, undefA, undefA, undefA, undefA, undefA, undefA, undefA, undefA, undefA, .any, .any, .any, .any, .any, .any, .any, .any, .any, .any, .any, .any, undefA, undefA, undefA, undefA, undefA, undefA]
abbrev x_regencyref01_num_0 (v0 v3 : AV) : List AV := [v0, undefA, .any, v3, undefA, .any, .any, .any, .any, .any, .any, .any, .any, .any, .any, .any, .any, .any, .any, .any, .any, undefA, undefA, undefA, undefA, undefA, undefA, undefA, undefA, undefA, undefA, undefA, undefA, undefA, undefA, undefA, undefA, undefA, undefA, undefA, undefA, undefA, undefA, undefA, undefA, undefA, undefA, undefA]
abbrev x_regencyref01_num_2 (v0 v4 : AV) : List AV := [v0, undefA, .any, undefA, v4, .any, .any, undefA, undefA, undefA, undefA, undefA, undefA, undefA, undefA, undefA, undefA, undefA, undefA, undefA, undefA, undefA, undefA, undefA, undefA, undefA, undefA, undefA, undefA, undefA, .any, .any, .any, .any, .any, .any, .any, .any, .any, .any, .any, .any, undefA, undefA, undefA, undefA, undefA, undefA]
abbrev l_regencyref01_num_1 : CC := .kill [2, 5, 6, 30, 31, 32, 33, 34, 35, 36, 37, 38, 39, 40, 41] (.seq (.seq (.region [⟨some 30, .mov (.tmp 0), none⟩,
    ⟨some 31, .bin .geq (.tmp 30) (.con (.int .i64 10)), none⟩])
  (.cond (.tmp 31) (.skip) (.kill [30, 31] (.exit 2))))
  (.block 3 (.seq (.region [⟨some 32, .mov (.tmp 0), none⟩,
    ⟨some 33, .bin .rem (.tmp 32) (.con (.int .i64 10)), none⟩,
    ⟨some 34, .mov (.tmp 0), none⟩,
    ⟨some 35, .bin .rem (.tmp 34) (.con (.int .i64 10)), none⟩,
    ⟨some 36, .bin .add (.tmp 35) (.con (.int .i64 1)), none⟩,
    ⟨some 37, .slice none (.con (.str ⟨#[48, 49, 50, 51, 52, 53, 54, 55, 56, 57]⟩)) (some (.tmp 33)) (some (.tmp 36)) none, none⟩,
    ⟨some 38, .mov (.tmp 4), none⟩,
    ⟨some 39, .bin .add (.tmp 37) (.tmp 38), none⟩,
    ⟨some 4, .mov (.tmp 39), none⟩])
  (.region [⟨some 40, .mov (.tmp 0), none⟩,
    ⟨some 41, .bin .quo (.tmp 40) (.con (.int .i64 10)), none⟩,
    ⟨some 0, .mov (.tmp 41), none⟩]))))
abbrev l_regencyref01_num_0 : CC := .kill [2, 5, 6, 7, 8, 9, 10, 11, 12, 13, 14, 15, 16, 17, 18, 19, 20] (.seq (.seq (.region [⟨some 7, .mov (.tmp 0), none⟩,
    ⟨some 8, .bin .leq (.tmp 7) (.con (.int .i64 (-10))), none⟩])
  (.cond (.tmp 8) (.skip) (.kill [7, 8] (.exit 0))))
  (.block 1 (.seq (.region [⟨some 9, .mov (.tmp 0), none⟩,
    ⟨some 10, .bin .rem (.tmp 9) (.con (.int .i64 10)), none⟩,
    ⟨some 11, .un .neg (.tmp 10), none⟩,
    ⟨some 12, .mov (.tmp 0), none⟩,
    ⟨some 13, .bin .rem (.tmp 12) (.con (.int .i64 10)), none⟩,
    ⟨some 14, .un .neg (.tmp 13), none⟩,
    ⟨some 15, .bin .add (.tmp 14) (.con (.int .i64 1)), none⟩,
    ⟨some 16, .slice none (.con (.str ⟨#[48, 49, 50, 51, 52, 53, 54, 55, 56, 57]⟩)) (some (.tmp 11)) (some (.tmp 15)) none, none⟩,
    ⟨some 17, .mov (.tmp 3), none⟩,
    ⟨some 18, .bin .add (.tmp 16) (.tmp 17), none⟩,
    ⟨some 3, .mov (.tmp 18), none⟩])
  (.region [⟨some 19, .mov (.tmp 0), none⟩,
    ⟨some 20, .bin .quo (.tmp 19) (.con (.int .i64 10)), none⟩,
    ⟨some 0, .mov (.tmp 20), none⟩]))))
/-- regency/regencyref01.num -/
def c_regencyref01_num : CFn := ⟨48, .seq (.region [⟨some 2, .mov (.con (.str ⟨#[]⟩)), none⟩])
  (.seq (.seq (.region [⟨some 5, .mov (.tmp 0), none⟩,
    ⟨some 6, .bin .lss (.tmp 5) (.con (.int .i64 0)), none⟩])
  (.cond (.tmp 6) (.seq (.region [⟨some 3, .mov (.con (.str ⟨#[]⟩)), none⟩])
  (.seq (.block 0 (.kill [2, 5, 6, 7, 8, 9, 10, 11, 12, 13, 14, 15, 16, 17, 18, 19, 20] (.loop l_regencyref01_num_0)))
  (.seq (.region [⟨some 21, .mov (.tmp 0), none⟩,
    ⟨some 22, .un .neg (.tmp 21), none⟩,
    ⟨some 23, .mov (.tmp 0), none⟩,
    ⟨some 24, .un .neg (.tmp 23), none⟩,
    ⟨some 25, .bin .add (.tmp 24) (.con (.int .i64 1)), none⟩,
    ⟨some 26, .slice none (.con (.str ⟨#[48, 49, 50, 51, 52, 53, 54, 55, 56, 57]⟩)) (some (.tmp 22)) (some (.tmp 25)) none, none⟩,
    ⟨some 27, .bin .add (.con (.str ⟨#[45]⟩)) (.tmp 26), none⟩,
    ⟨some 28, .mov (.tmp 3), none⟩,
    ⟨some 29, .bin .add (.tmp 27) (.tmp 28), none⟩,
    ⟨some 2, .mov (.tmp 29), none⟩])
  (.ret)))) (.skip)))
  (.seq (.region [⟨some 4, .mov (.con (.str ⟨#[]⟩)), none⟩])
  (.seq (.block 2 (.kill [2, 5, 6, 30, 31, 32, 33, 34, 35, 36, 37, 38, 39, 40, 41] (.loop l_regencyref01_num_1)))
  (.seq (.region [⟨some 42, .mov (.tmp 0), none⟩,
    ⟨some 43, .mov (.tmp 0), none⟩,
    ⟨some 44, .bin .add (.tmp 43) (.con (.int .i64 1)), none⟩,
    ⟨some 45, .slice none (.con (.str ⟨#[48, 49, 50, 51, 52, 53, 54, 55, 56, 57]⟩)) (some (.tmp 42)) (some (.tmp 44)) none, none⟩,
    ⟨some 46, .mov (.tmp 4), none⟩,
    ⟨some 47, .bin .add (.tmp 45) (.tmp 46), none⟩,
    ⟨some 2, .mov (.tmp 47), none⟩])
  (.ret))))),
  [.tmp 2]⟩
theorem is_regencyref01_num : IsFn Tryd.prog 69 c_regencyref01_num := isFn_of [([], []), ([], []), ([], []), ([2, 5, 6, 7, 8, 9, 10, 11, 12, 13, 14, 15, 16, 17, 18, 19, 20], []), ([], []), ([7, 8], []), ([], []), ([], []), ([], []), ([], []), ([], []), ([2, 5, 6, 30, 31, 32, 33, 34, 35, 36, 37, 38, 39, 40, 41], []), ([], []), ([30, 31], []), ([], []), ([], []), ([], []), ([], [])] (by kernel_rfl)

/-- cmp.Compare[int] -/
def c_cmp_Compare_int : CFn := ⟨20, .seq (.region [⟨some 4, .mov (.con (.int .i64 0)), none⟩])
  (.seq (.region [⟨some 7, .mov (.tmp 0), none⟩,
    ⟨some 8, .pcall 89 [(.tmp 7)], none⟩,
    ⟨some 5, .mov (.tmp 8), none⟩])
  (.seq (.region [⟨some 9, .mov (.tmp 1), none⟩,
    ⟨some 10, .pcall 89 [(.tmp 9)], none⟩,
    ⟨some 6, .mov (.tmp 10), none⟩])
  (.seq (.seq (.region [⟨some 11, .mov (.tmp 5), none⟩])
  (.cond (.tmp 11) (.seq (.seq (.region [⟨some 12, .mov (.tmp 6), none⟩])
  (.cond (.tmp 12) (.seq (.region [⟨some 4, .mov (.con (.int .i64 0)), none⟩])
  (.ret)) (.skip)))
  (.seq (.region [⟨some 4, .mov (.con (.int .i64 (-1))), none⟩])
  (.ret))) (.skip)))
  (.seq (.seq (.region [⟨some 13, .mov (.tmp 6), none⟩])
  (.cond (.tmp 13) (.seq (.region [⟨some 4, .mov (.con (.int .i64 1)), none⟩])
  (.ret)) (.skip)))
  (.seq (.seq (.region [⟨some 14, .mov (.tmp 0), none⟩,
    ⟨some 15, .mov (.tmp 1), none⟩,
    ⟨some 16, .bin .lss (.tmp 14) (.tmp 15), none⟩])
  (.cond (.tmp 16) (.seq (.region [⟨some 4, .mov (.con (.int .i64 (-1))), none⟩])
  (.ret)) (.skip)))
  (.seq (.seq (.region [⟨some 17, .mov (.tmp 0), none⟩,
    ⟨some 18, .mov (.tmp 1), none⟩,
    ⟨some 19, .bin .gtr (.tmp 17) (.tmp 18), none⟩])
  (.cond (.tmp 19) (.seq (.region [⟨some 4, .mov (.con (.int .i64 1)), none⟩])
  (.ret)) (.skip)))
  (.seq (.region [⟨some 4, .mov (.con (.int .i64 0)), none⟩])
  (.ret)))))))),
  [.tmp 4]⟩
theorem is_cmp_Compare_int : IsFn Tryd.prog 70 c_cmp_Compare_int := isFn_of [([], []), ([], [1]), ([], [1]), ([], []), ([], []), ([], []), ([], []), ([], []), ([], []), ([], []), ([], []), ([], []), ([], []), ([], []), ([], []), ([], []), ([], []), ([], []), ([], []), ([], [])] (by kernel_rfl)

abbrev s_reply_Bytes_0 (v3 v38 v39 v40 : AV) : List AV := [.any, .any, .any, v3, undefA, .any, .any, .any, .any, .any, .any, .any, .any, .any, .any, .any, .any, .any, .any, .any, .any, .any, .any, .any, .any, .any, .any, .any, .any, .any, .any, .any, .any, .any, .any, .any, .any, .any, v38, v39, v40, .any, .any, .any, .any, .any, .any, .any, .any, .any, .any, .any, .any, .any, .any, .any, .any, undefA, undefA]
abbrev x_reply_Bytes_0 (v3 : AV) : List AV := [.any, .any, .any, v3, undefA, .any, .any, .any, .any, .any, .any, .any, .any, .any, .any, .any, .any, .any, .any, .any, .any, .any, .any, .any, .any, .any, .any, .any, .any, .any, .any, .any, .any, .any, .any, .any, .any, .any, .any, .any, .any, .any, .any, .any, .any, .any, .any, .any, .any, .any, .any, .any, .any, .any, .any, .any, .any, undefA, undefA]
abbrev l_reply_Bytes_0 : CC := .kill [0, 1, 2, 5, 6, 7, 8, 9, 10, 11, 12, 13, 14, 15, 16, 17, 18, 19, 20, 21, 22, 23, 24, 25, 26, 27, 28, 29, 30, 31, 32, 33, 34, 35, 36, 37, 41, 42, 43, 44, 45, 46, 47, 48, 49, 50, 51, 52, 53, 54, 55, 56] (.seq (.region [⟨some 41, .bin .lss (.tmp 40) (.tmp 39), none⟩])
  (.seq (.cond (.tmp 41) (.skip) (.kill [38, 39, 40, 41] (.exit 0)))
  (.seq (.block 1 (.seq (.region [⟨some 42, .iaddr 3 none (.tmp 38) (.tmp 40), none⟩,
    ⟨some 43, .load (some 3) (.tmp 42), none⟩,
    ⟨some 5, .alloc [.int .i64 0, .int .i64 0, .int .i64 0], none⟩,
    ⟨none, .store 3 (.tmp 5) (.tmp 43), none⟩])
  (.seq (.region [⟨some 44, .mov (.tmp 3), none⟩,
    ⟨some 45, .faddr 0 (.tmp 5), none⟩,
    ⟨some 46, .load none (.tmp 45), none⟩,
    ⟨some 47, .call 49 [(.tmp 44), (.tmp 46)], none⟩])
  (.seq (.region [⟨some 48, .mov (.tmp 3), none⟩,
    ⟨some 49, .faddr 1 (.tmp 5), none⟩,
    ⟨some 50, .load none (.tmp 49), none⟩,
    ⟨some 51, .call 49 [(.tmp 48), (.tmp 50)], none⟩])
  (.region [⟨some 52, .mov (.tmp 3), none⟩,
    ⟨some 53, .faddr 2 (.tmp 5), none⟩,
    ⟨some 54, .load none (.tmp 53), none⟩,
    ⟨some 55, .call 49 [(.tmp 52), (.tmp 54)], none⟩])))))
  (.region [⟨some 56, .bin .add (.tmp 40) (.con (.int .i64 1)), none⟩,
    ⟨some 40, .mov (.tmp 56), none⟩]))))
/-- regency/reply.Bytes -/
def c_reply_Bytes : CFn := ⟨59, .seq (.region [⟨some 1, .box (.tmp 0), none⟩,
    ⟨some 2, .take (.con (.sl .ex [])), none⟩])
  (.seq (.seq (.region [⟨some 6, .load (some 6) (.tmp 1), none⟩,
    ⟨some 7, .pcall 56 [(.tmp 6)], none⟩,
    ⟨some 8, .un .not (.tmp 7), none⟩])
  (.cond (.tmp 8) (.seq (.region [⟨some 2, .take (.con (.sl .ex [])), none⟩])
  (.ret)) (.skip)))
  (.seq (.region [⟨some 9, .build [.sl .ex []] [], none⟩,
    ⟨some 10, .box (.tmp 9), none⟩,
    ⟨some 3, .mov (.tmp 10), none⟩])
  (.seq (.region [⟨some 11, .mov (.tmp 3), none⟩,
    ⟨some 12, .faddr 0 (.tmp 1), none⟩,
    ⟨some 13, .load none (.tmp 12), none⟩,
    ⟨some 14, .call 49 [(.tmp 11), (.tmp 13)], none⟩])
  (.seq (.region [⟨some 15, .mov (.tmp 3), none⟩,
    ⟨some 16, .faddr 1 (.tmp 1), none⟩,
    ⟨some 17, .load none (.tmp 16), none⟩,
    ⟨some 18, .call 49 [(.tmp 15), (.tmp 17)], none⟩])
  (.seq (.region [⟨some 19, .mov (.tmp 3), none⟩,
    ⟨some 20, .faddr 2 (.tmp 1), none⟩,
    ⟨some 21, .load none (.tmp 20), none⟩,
    ⟨some 22, .cBytesStr (.tmp 21), none⟩,
    ⟨some 23, .call 78 [(.tmp 19), (.tmp 22)], none⟩])
  (.seq (.region [⟨some 24, .mov (.tmp 3), none⟩,
    ⟨some 25, .faddr 3 (.tmp 1), none⟩,
    ⟨some 26, .load none (.tmp 25), none⟩,
    ⟨some 27, .call 78 [(.tmp 24), (.tmp 26)], none⟩])
  (.seq (.region [⟨some 28, .mov (.tmp 3), none⟩,
    ⟨some 29, .faddr 4 (.tmp 1), none⟩,
    ⟨some 30, .load none (.tmp 29), none⟩,
    ⟨some 31, .call 90 [(.tmp 28), (.tmp 30)], none⟩])
  (.seq (.region [⟨some 32, .mov (.tmp 3), none⟩,
    ⟨some 33, .faddr 5 (.tmp 1), none⟩,
    ⟨some 34, .load none (.tmp 33), none⟩,
    ⟨some 35, .lenl (.tmp 34), none⟩,
    ⟨some 36, .call 49 [(.tmp 32), (.tmp 35)], none⟩])
  (.seq (.seq (.region [⟨some 37, .faddr 5 (.tmp 1), none⟩,
    ⟨some 38, .load none (.tmp 37), none⟩,
    ⟨some 39, .lenl (.tmp 38), none⟩,
    ⟨some 40, .mov (.con (.int .i64 0)), none⟩])
  (.block 0 (.kill [0, 1, 2, 5, 6, 7, 8, 9, 10, 11, 12, 13, 14, 15, 16, 17, 18, 19, 20, 21, 22, 23, 24, 25, 26, 27, 28, 29, 30, 31, 32, 33, 34, 35, 36, 37, 41, 42, 43, 44, 45, 46, 47, 48, 49, 50, 51, 52, 53, 54, 55, 56] (.loop l_reply_Bytes_0))))
  (.seq (.region [⟨some 57, .mov (.tmp 3), none⟩,
    ⟨some 58, .call 22 [(.tmp 57)], none⟩,
    ⟨some 2, .take (.tmp 58), none⟩])
  (.ret))))))))))),
  [.tmp 2]⟩
theorem is_reply_Bytes : IsFn Tryd.prog 71 c_reply_Bytes := isFn_of [([], [1]), ([], [1]), ([], [0]), ([], []), ([], []), ([], []), ([], []), ([], []), ([], []), ([], []), ([], []), ([], []), ([0, 1, 2, 5, 6, 7, 8, 9, 10, 11, 12, 13, 14, 15, 16, 17, 18, 19, 20, 21, 22, 23, 24, 25, 26, 27, 28, 29, 30, 31, 32, 33, 34, 35, 36, 37, 41, 42, 43, 44, 45, 46, 47, 48, 49, 50, 51, 52, 53, 54, 55, 56], []), ([], []), ([38, 39, 40, 41], []), ([], []), ([], []), ([], []), ([], []), ([], []), ([], [2]), ([], [])] (by kernel_rfl)

/-- regency/reply.between -/
def c_reply_between : CFn := ⟨15, .seq (.region [⟨some 6, .mov (.con (.bool false)), none⟩])
  (.seq (.region [⟨some 7, .mov (.tmp 0), none⟩,
    ⟨some 8, .mov (.tmp 1), none⟩,
    ⟨some 9, .bin .geq (.tmp 7) (.tmp 8), none⟩,
    ⟨some 10, .mov (.tmp 9), none⟩,
    ⟨some 11, .mov (.tmp 0), (some (10, true))⟩,
    ⟨some 12, .mov (.tmp 2), (some (10, true))⟩,
    ⟨some 13, .bin .leq (.tmp 11) (.tmp 12), (some (10, true))⟩,
    ⟨some 14, .pick (.tmp 10) (.tmp 13) (.con (.bool false)), none⟩,
    ⟨some 6, .mov (.tmp 14), none⟩])
  (.ret)),
  [.tmp 6]⟩
theorem is_reply_between : IsFn Tryd.prog 72 c_reply_between := isFn_of [([], []), ([], []), ([], [])] (by kernel_rfl)

/-- regency/cats.Right -/
def c_cats_Right : CFn := ⟨13, .seq (.region [⟨some 2, .mov (.con (.bool false)), none⟩])
  (.seq (.region [⟨some 7, .mov (.tmp 0), none⟩,
    ⟨some 8, .pcall 91 [(.tmp 7)], none⟩,
    ⟨some 6, .take (.tmp 8), none⟩,
    ⟨some 9, .extract 6 0, none⟩,
    ⟨some 10, .extract 6 1, none⟩,
    ⟨some 11, .extract 6 2, none⟩,
    ⟨some 3, .take (.tmp 9), none⟩,
    ⟨some 4, .mov (.tmp 10), none⟩,
    ⟨some 5, .mov (.tmp 11), none⟩])
  (.seq (.region [⟨some 12, .mov (.tmp 5), none⟩,
    ⟨some 2, .mov (.tmp 12), none⟩])
  (.ret))),
  [.tmp 2]⟩
theorem is_cats_Right : IsFn Tryd.prog 73 c_cats_Right := isFn_of [([], []), ([], [1, 2, 6]), ([], []), ([], [])] (by kernel_rfl)

abbrev s_label_Right_0 (v0 v8 v9 v10 : AV) : List AV := [v0, undefA, .any, .any, .any, .any, .any, .any, v8, v9, v10, .any, .any, .any, .any, .any, .any, .any, .any, .any, .any, .any, .any, .any, .any, .any, .any, .any, .any, .any, .any, .any, .any, .any, .any, .any, .any, .any, .any, .any, .any, .any, .any, .any, .any, .any, .any, .any, .any, .any]
abbrev x_label_Right_0  : List AV := [.any, undefA, .any, .any, .any, .any, .any, .any, .any, .any, .any, .any, .any, .any, .any, .any, .any, .any, .any, .any, .any, .any, .any, .any, .any, .any, .any, .any, .any, .any, .any, .any, .any, .any, .any, .any, .any, .any, .any, .any, .any, .any, .any, .any, .any, .any, .any, .any, .any, .any]
abbrev l_label_Right_0 : CC := .kill [2, 3, 4, 5, 6, 7, 11, 12, 13, 14, 15, 16, 17, 18, 19, 20, 21, 22, 23, 24, 25, 26, 27, 28, 29, 30, 31, 32, 33, 34, 35, 36, 37, 38, 39, 40, 41, 42, 43, 44, 45, 46, 47, 48, 49] (.seq (.region [⟨some 11, .bin .lss (.tmp 10) (.tmp 9), none⟩])
  (.seq (.cond (.tmp 11) (.skip) (.kill [0, 8, 9, 10, 11] (.exit 0)))
  (.seq (.block 1 (.seq (.region [⟨some 12, .mov (.tmp 10), none⟩,
    ⟨some 13, .iaddr 2 none (.tmp 8) (.tmp 10), none⟩,
    ⟨some 14, .load (some 2) (.tmp 13), none⟩,
    ⟨some 4, .alloc [.str ⟨#[]⟩, .int .i64 0], none⟩,
    ⟨some 3, .mov (.tmp 12), none⟩,
    ⟨none, .store 2 (.tmp 4) (.tmp 14), none⟩])
  (.seq (.region [⟨some 15, .faddr 0 (.tmp 4), none⟩,
    ⟨some 16, .load none (.tmp 15), none⟩,
    ⟨some 17, .pcall 73 [(.tmp 16)], none⟩,
    ⟨some 18, .un .not (.tmp 17), none⟩,
    ⟨some 19, .mov (.tmp 18), none⟩,
    ⟨some 20, .faddr 1 (.tmp 4), (some (19, false))⟩,
    ⟨some 21, .load none (.tmp 20), (some (19, false))⟩,
    ⟨some 22, .bin .eql (.tmp 21) (.con (.int .i64 1)), (some (19, false))⟩,
    ⟨some 23, .pick (.tmp 19) (.con (.bool true)) (.tmp 22), none⟩,
    ⟨some 24, .mov (.tmp 23), none⟩,
    ⟨some 25, .faddr 1 (.tmp 4), (some (24, false))⟩,
    ⟨some 26, .load none (.tmp 25), (some (24, false))⟩,
    ⟨some 27, .bin .lss (.tmp 26) (.con (.int .i64 0)), (some (24, false))⟩,
    ⟨some 28, .pick (.tmp 24) (.con (.bool true)) (.tmp 27), none⟩,
    ⟨some 29, .mov (.tmp 28), none⟩,
    ⟨some 30, .faddr 1 (.tmp 4), (some (29, false))⟩,
    ⟨some 31, .load none (.tmp 30), (some (29, false))⟩,
    ⟨some 32, .bin .geq (.tmp 31) (.con (.int .i64 4)), (some (29, false))⟩,
    ⟨some 33, .pick (.tmp 29) (.con (.bool true)) (.tmp 32), none⟩,
    ⟨some 34, .mov (.tmp 33), none⟩,
    ⟨some 35, .mov (.tmp 3), (some (34, false))⟩,
    ⟨some 36, .bin .gtr (.tmp 35) (.con (.int .i64 0)), (some (34, false))⟩,
    ⟨some 37, .mov (.tmp 36), (some (34, false))⟩,
    ⟨some 38, .mov (.tmp 0), (some (37, true))⟩,
    ⟨some 39, .mov (.tmp 3), (some (37, true))⟩,
    ⟨some 40, .bin .sub (.tmp 39) (.con (.int .i64 1)), (some (37, true))⟩,
    ⟨some 41, .iaddr 2 none (.tmp 38) (.tmp 40), (some (37, true))⟩,
    ⟨some 42, .load (some 2) (.tmp 41), (some (37, true))⟩,
    ⟨some 43, .faddr 0 (.tmp 4), (some (37, true))⟩,
    ⟨some 44, .load none (.tmp 43), (some (37, true))⟩,
    ⟨some 45, .pcall 92 [(.tmp 42), (.tmp 44)], (some (37, true))⟩,
    ⟨some 46, .bin .geq (.tmp 45) (.con (.int .i64 0)), (some (37, true))⟩,
    ⟨some 47, .pick (.tmp 37) (.tmp 46) (.con (.bool false)), (some (34, false))⟩,
    ⟨some 48, .pick (.tmp 34) (.con (.bool true)) (.tmp 47), none⟩])
  (.cond (.tmp 48) (.seq (.region [⟨some 2, .mov (.con (.bool false)), none⟩])
  (.ret)) (.skip)))))
  (.region [⟨some 49, .bin .add (.tmp 10) (.con (.int .i64 1)), none⟩,
    ⟨some 10, .mov (.tmp 49), none⟩]))))
/-- regency/label.Right -/
def c_label_Right : CFn := ⟨50, .seq (.region [⟨some 2, .mov (.con (.bool false)), none⟩])
  (.seq (.seq (.region [⟨some 5, .mov (.tmp 0), none⟩,
    ⟨some 6, .lenl (.tmp 5), none⟩,
    ⟨some 7, .bin .gtr (.tmp 6) (.con (.int .i64 8)), none⟩])
  (.cond (.tmp 7) (.seq (.region [⟨some 2, .mov (.con (.bool false)), none⟩])
  (.ret)) (.skip)))
  (.seq (.seq (.region [⟨some 8, .mov (.tmp 0), none⟩,
    ⟨some 9, .lenl (.tmp 8), none⟩,
    ⟨some 10, .mov (.con (.int .i64 0)), none⟩])
  (.block 0 (.kill [2, 3, 4, 5, 6, 7, 11, 12, 13, 14, 15, 16, 17, 18, 19, 20, 21, 22, 23, 24, 25, 26, 27, 28, 29, 30, 31, 32, 33, 34, 35, 36, 37, 38, 39, 40, 41, 42, 43, 44, 45, 46, 47, 48, 49] (.loop l_label_Right_0))))
  (.seq (.region [⟨some 2, .mov (.con (.bool true)), none⟩])
  (.ret)))),
  [.tmp 2]⟩
theorem is_label_Right : IsFn Tryd.prog 74 c_label_Right := isFn_of [([], []), ([], []), ([], []), ([], []), ([], []), ([2, 3, 4, 5, 6, 7, 11, 12, 13, 14, 15, 16, 17, 18, 19, 20, 21, 22, 23, 24, 25, 26, 27, 28, 29, 30, 31, 32, 33, 34, 35, 36, 37, 38, 39, 40, 41, 42, 43, 44, 45, 46, 47, 48, 49], []), ([], []), ([0, 8, 9, 10, 11], []), ([], []), ([], [2, 30]), ([], []), ([], []), ([], []), ([], []), ([], [])] (by kernel_rfl)

abbrev s_label_Get_0 (v0 v4 v6 v7 : AV) : List AV := [v0, undefA, .any, .any, v4, .any, v6, v7, .any, .any, .any, .any, .any, .any, .any, .any, .any, .any, undefA, undefA, undefA, undefA, undefA, undefA, undefA, undefA, undefA]
abbrev x_label_Get_0 (v0 v4 : AV) : List AV := [v0, undefA, .any, .any, v4, .any, .any, .any, .any, .any, .any, .any, .any, .any, .any, .any, .any, .any, undefA, undefA, undefA, undefA, undefA, undefA, undefA, undefA, undefA]
abbrev l_label_Get_0 : CC := .kill [2, 3, 5, 8, 9, 10, 11, 12, 13, 14, 15, 16, 17] (.seq (.region [⟨some 8, .bin .lss (.tmp 7) (.tmp 6), none⟩])
  (.seq (.cond (.tmp 8) (.skip) (.kill [6, 7, 8] (.exit 0)))
  (.seq (.block 1 (.region [⟨some 9, .take (.tmp 4), none⟩,
    ⟨some 10, .mov (.tmp 0), none⟩,
    ⟨some 11, .call 58 [(.tmp 10), (.con (.int .i64 80))], none⟩,
    ⟨some 12, .mov (.tmp 0), none⟩,
    ⟨some 13, .call 34 [(.tmp 12), (.con (.int .i64 3))], none⟩,
    ⟨some 14, .build [.str ⟨#[]⟩, .int .i64 0] [(0, 1, (.tmp 11)), (1, 1, (.tmp 13))], none⟩,
    ⟨some 15, .bslice 2 false [(.tmp 14)], none⟩,
    ⟨some 16, .append 2 24 false (.tmp 9) (.tmp 15), none⟩,
    ⟨some 4, .take (.tmp 16), none⟩]))
  (.region [⟨some 17, .bin .add (.tmp 7) (.con (.int .i64 1)), none⟩,
    ⟨some 7, .mov (.tmp 17), none⟩]))))
/-- regency/label.Get -/
def c_label_Get : CFn := ⟨27, .seq (.region [⟨some 2, .take (.con (.sl .ex [])), none⟩,
    ⟨some 3, .mov (.con (.int .i64 0)), none⟩])
  (.seq (.region [⟨some 4, .take (.con (.sl .ex [])), none⟩])
  (.seq (.seq (.region [⟨some 5, .mov (.tmp 0), none⟩,
    ⟨some 6, .call 34 [(.tmp 5), (.con (.int .i64 8))], none⟩,
    ⟨some 7, .mov (.con (.int .i64 0)), none⟩])
  (.block 0 (.kill [2, 3, 5, 8, 9, 10, 11, 12, 13, 14, 15, 16, 17] (.loop l_label_Get_0))))
  (.seq (.seq (.region [⟨some 18, .mov (.tmp 0), none⟩,
    ⟨some 19, .call 35 [(.tmp 18)], none⟩,
    ⟨some 20, .isnil .ifc true (.tmp 19), none⟩,
    ⟨some 21, .mov (.tmp 20), none⟩,
    ⟨some 22, .mov (.tmp 4), (some (21, false))⟩,
    ⟨some 23, .pcall 74 [(.tmp 22)], (some (21, false))⟩,
    ⟨some 24, .un .not (.tmp 23), (some (21, false))⟩,
    ⟨some 25, .pick (.tmp 21) (.con (.bool true)) (.tmp 24), none⟩])
  (.cond (.tmp 25) (.seq (.region [⟨some 2, .take (.con (.sl .ex [])), none⟩,
    ⟨some 3, .mov (.con (.int .i64 10)), none⟩])
  (.ret)) (.skip)))
  (.seq (.region [⟨some 26, .take (.tmp 4), none⟩,
    ⟨some 2, .take (.tmp 26), none⟩,
    ⟨some 3, .mov (.con (.int .i64 0)), none⟩])
  (.ret))))),
  [.tmp 2, .tmp 3]⟩
theorem is_label_Get : IsFn Tryd.prog 75 c_label_Get := isFn_of [([], [0]), ([], [0]), ([], []), ([2, 3, 5, 8, 9, 10, 11, 12, 13, 14, 15, 16, 17], []), ([], []), ([6, 7, 8], []), ([], [0, 8]), ([], []), ([], [5]), ([], [0]), ([], []), ([], [0, 1]), ([], [])] (by kernel_rfl)

/-- (*regency/tape.Tape).End -/
def c_tape_Tape_End : CFn := ⟨16, .seq (.region [⟨some 2, .mov (.con (.nili)), none⟩])
  (.seq (.seq (.region [⟨some 4, .mov (.tmp 0), none⟩,
    ⟨some 5, .call 35 [(.tmp 4)], none⟩,
    ⟨some 3, .mov (.tmp 5), none⟩])
  (.seq (.region [⟨some 6, .mov (.tmp 3), none⟩,
    ⟨some 7, .isnil .ifc true (.tmp 6), none⟩])
  (.cond (.tmp 7) (.seq (.region [⟨some 8, .mov (.tmp 3), none⟩,
    ⟨some 2, .mov (.tmp 8), none⟩])
  (.ret)) (.skip))))
  (.seq (.seq (.region [⟨some 9, .mov (.tmp 0), none⟩,
    ⟨some 10, .nilck (.tmp 9), none⟩,
    ⟨some 11, .faddr 0 (.tmp 10), none⟩,
    ⟨some 12, .load none (.tmp 11), none⟩,
    ⟨some 13, .lenl (.tmp 12), none⟩,
    ⟨some 14, .bin .gtr (.tmp 13) (.con (.int .i64 0)), none⟩])
  (.cond (.tmp 14) (.seq (.region [⟨some 15, .call 62 [(.con (.str ⟨#[116, 97, 112, 101]⟩)), (.con (.int .i64 10))], none⟩,
    ⟨some 2, .mov (.tmp 15), none⟩])
  (.ret)) (.skip)))
  (.seq (.region [⟨some 2, .mov (.con (.nili)), none⟩])
  (.ret)))),
  [.tmp 2]⟩
theorem is_tape_Tape_End : IsFn Tryd.prog 76 c_tape_Tape_End := isFn_of [([], []), ([], []), ([], []), ([], []), ([], []), ([], []), ([], []), ([], []), ([], []), ([], [])] (by kernel_rfl)

/-- regency/fault.Wrap -/
def c_fault_Wrap : CFn := ⟨16, .seq (.region [⟨some 6, .mov (.con (.nili)), none⟩])
  (.seq (.seq (.region [⟨some 7, .mov (.tmp 1), none⟩,
    ⟨some 8, .bin .eql (.tmp 7) (.con (.int .i64 0)), none⟩])
  (.cond (.tmp 8) (.seq (.region [⟨some 9, .mov (.tmp 2), none⟩,
    ⟨some 6, .mov (.tmp 9), none⟩])
  (.ret)) (.skip)))
  (.seq (.region [⟨some 10, .mov (.tmp 0), none⟩,
    ⟨some 11, .mov (.tmp 1), none⟩,
    ⟨some 12, .mov (.tmp 2), none⟩,
    ⟨some 13, .build [.str ⟨#[]⟩, .int .i64 0, .nili] [(0, 1, (.tmp 10)), (1, 1, (.tmp 11)), (2, 1, (.tmp 12))], none⟩,
    ⟨some 14, .rbox (.tmp 13), none⟩,
    ⟨some 15, .mkif 137 (.tmp 14), none⟩,
    ⟨some 6, .mov (.tmp 15), none⟩])
  (.ret))),
  [.tmp 6]⟩
theorem is_fault_Wrap : IsFn Tryd.prog 77 c_fault_Wrap := isFn_of [([], []), ([], []), ([], []), ([], []), ([], [4]), ([], [])] (by kernel_rfl)

/-- (*regency/tape.Pen).Text -/
def c_tape_Pen_Text : CFn := ⟨17, .seq (.region [⟨some 4, .mov (.tmp 0), none⟩,
    ⟨some 5, .mov (.tmp 1), none⟩,
    ⟨some 6, .lens (.tmp 5), none⟩,
    ⟨some 7, .call 49 [(.tmp 4), (.tmp 6)], none⟩])
  (.cond (.tmp 7) (.region [⟨some 8, .mov (.tmp 0), none⟩,
    ⟨some 9, .mov (.tmp 0), none⟩,
    ⟨some 10, .nilck (.tmp 9), none⟩,
    ⟨some 11, .faddr 0 (.tmp 10), none⟩,
    ⟨some 12, .ltake (.tmp 11), none⟩,
    ⟨some 13, .mov (.tmp 1), none⟩,
    ⟨some 14, .append 1 1 true (.tmp 12) (.tmp 13), none⟩,
    ⟨some 15, .nilck (.tmp 8), none⟩,
    ⟨some 16, .faddr 0 (.tmp 15), none⟩,
    ⟨none, .store 1 (.tmp 16) (.tmp 14), none⟩]) (.skip)),
  []⟩
theorem is_tape_Pen_Text : IsFn Tryd.prog 78 c_tape_Pen_Text := isFn_of [([], []), ([], [4])] (by kernel_rfl)

/-- strings.splitSeq$1 -/
theorem ok_strings_splitSeq_1 : OkDef Tryd.prog 79 (.split) := split_ok

/-- unicode/utf8.DecodeRuneInString -/
def c_unicode_utf8_DecodeRuneInString : CFn := ⟨19, .seq (.region [⟨some 2, .mov (.con (.int .i32 0)), none⟩,
    ⟨some 3, .mov (.con (.int .i64 0)), none⟩])
  (.seq (.seq (.region [⟨some 4, .mov (.tmp 0), none⟩,
    ⟨some 5, .bin .neq (.tmp 4) (.con (.str ⟨#[]⟩)), none⟩,
    ⟨some 6, .mov (.tmp 5), none⟩,
    ⟨some 7, .mov (.tmp 0), (some (6, true))⟩,
    ⟨some 8, .idxs (.tmp 7) (.con (.int .i64 0)), (some (6, true))⟩,
    ⟨some 9, .bin .lss (.tmp 8) (.con (.int .u8 128)), (some (6, true))⟩,
    ⟨some 10, .pick (.tmp 6) (.tmp 9) (.con (.bool false)), none⟩])
  (.cond (.tmp 10) (.seq (.region [⟨some 11, .mov (.tmp 0), none⟩,
    ⟨some 12, .idxs (.tmp 11) (.con (.int .i64 0)), none⟩,
    ⟨some 13, .cInt .i32 (.tmp 12), none⟩,
    ⟨some 2, .mov (.tmp 13), none⟩,
    ⟨some 3, .mov (.con (.int .i64 1)), none⟩])
  (.ret)) (.region [⟨some 15, .mov (.tmp 0), none⟩,
    ⟨some 16, .pcall 93 [(.tmp 15)], none⟩,
    ⟨some 14, .mov (.tmp 16), none⟩,
    ⟨some 17, .extract 14 0, none⟩,
    ⟨some 18, .extract 14 1, none⟩,
    ⟨some 2, .mov (.tmp 17), none⟩,
    ⟨some 3, .mov (.tmp 18), none⟩])))
  (.ret)),
  [.tmp 2, .tmp 3]⟩
theorem is_unicode_utf8_DecodeRuneInString : IsFn Tryd.prog 80 c_unicode_utf8_DecodeRuneInString := isFn_of [([], []), ([], []), ([], []), ([], []), ([], [1]), ([], [])] (by kernel_rfl)

/-- strings.Index -/
def c_strings_Index : CFn := ⟨8, .seq (.region [⟨some 4, .mov (.con (.int .i64 0)), none⟩])
  (.seq (.region [⟨some 5, .mov (.tmp 0), none⟩,
    ⟨some 6, .mov (.tmp 1), none⟩,
    ⟨some 7, .pcall 94 [(.tmp 5), (.tmp 6)], none⟩,
    ⟨some 4, .mov (.tmp 7), none⟩])
  (.ret)),
  [.tmp 4]⟩
theorem is_strings_Index : IsFn Tryd.prog 81 c_strings_Index := isFn_of [([], []), ([], [2]), ([], [])] (by kernel_rfl)

/-- strconv.baseError -/
def c_strconv_baseError : CFn := ⟨16, .seq (.region [⟨some 6, .mov (.con (.nilp)), none⟩])
  (.seq (.region [⟨some 7, .mov (.tmp 0), none⟩,
    ⟨some 8, .mov (.tmp 1), none⟩,
    ⟨some 9, .pcall 96 [(.tmp 8)], none⟩,
    ⟨some 10, .mov (.tmp 2), none⟩,
    ⟨some 11, .pcall 44 [(.tmp 10)], none⟩,
    ⟨some 12, .bin .add (.con (.str ⟨#[105, 110, 118, 97, 108, 105, 100, 32, 98, 97, 115, 101, 32]⟩)) (.tmp 11), none⟩,
    ⟨some 13, .call 97 [(.tmp 12)], none⟩,
    ⟨some 14, .build [.str ⟨#[]⟩, .str ⟨#[]⟩, .nili] [(0, 1, (.tmp 7)), (1, 1, (.tmp 9)), (2, 1, (.tmp 13))], none⟩,
    ⟨some 15, .box (.tmp 14), none⟩,
    ⟨some 6, .mov (.tmp 15), none⟩])
  (.ret)),
  [.tmp 6]⟩
theorem is_strconv_baseError : IsFn Tryd.prog 85 c_strconv_baseError := isFn_of [([], []), ([], [2, 4]), ([], [])] (by kernel_rfl)

/-- strconv.bitSizeError -/
def c_strconv_bitSizeError : CFn := ⟨16, .seq (.region [⟨some 6, .mov (.con (.nilp)), none⟩])
  (.seq (.region [⟨some 7, .mov (.tmp 0), none⟩,
    ⟨some 8, .mov (.tmp 1), none⟩,
    ⟨some 9, .pcall 96 [(.tmp 8)], none⟩,
    ⟨some 10, .mov (.tmp 2), none⟩,
    ⟨some 11, .pcall 44 [(.tmp 10)], none⟩,
    ⟨some 12, .bin .add (.con (.str ⟨#[105, 110, 118, 97, 108, 105, 100, 32, 98, 105, 116, 32, 115, 105, 122, 101, 32]⟩)) (.tmp 11), none⟩,
    ⟨some 13, .call 97 [(.tmp 12)], none⟩,
    ⟨some 14, .build [.str ⟨#[]⟩, .str ⟨#[]⟩, .nili] [(0, 1, (.tmp 7)), (1, 1, (.tmp 9)), (2, 1, (.tmp 13))], none⟩,
    ⟨some 15, .box (.tmp 14), none⟩,
    ⟨some 6, .mov (.tmp 15), none⟩])
  (.ret)),
  [.tmp 6]⟩
theorem is_strconv_bitSizeError : IsFn Tryd.prog 86 c_strconv_bitSizeError := isFn_of [([], []), ([], [2, 4]), ([], [])] (by kernel_rfl)

/-- cmp.isNaN[int] -/
def c_cmp_isNaN_int : CFn := ⟨6, .seq (.region [⟨some 2, .mov (.con (.bool false)), none⟩])
  (.seq (.region [⟨some 3, .mov (.tmp 0), none⟩,
    ⟨some 4, .mov (.tmp 0), none⟩,
    ⟨some 5, .bin .neq (.tmp 3) (.tmp 4), none⟩,
    ⟨some 2, .mov (.tmp 5), none⟩])
  (.ret)),
  [.tmp 2]⟩
theorem is_cmp_isNaN_int : IsFn Tryd.prog 89 c_cmp_isNaN_int := isFn_of [([], []), ([], []), ([], [])] (by kernel_rfl)

abbrev s_label_Put_0 (v0 v10 v11 v12 : AV) : List AV := [v0, .any, undefA, undefA, undefA, .any, .any, .any, .any, .any, v10, v11, v12, .any, .any, .any, .any, .any, .any, .any, .any, .any, .any, .any, .any]
abbrev x_label_Put_0  : List AV := [.any, .any, undefA, undefA, undefA, .any, .any, .any, .any, .any, .any, .any, .any, .any, .any, .any, .any, .any, .any, .any, .any, .any, .any, .any, .any]
abbrev l_label_Put_0 : CC := .kill [1, 5, 6, 7, 8, 9, 13, 14, 15, 16, 17, 18, 19, 20, 21, 22, 23, 24] (.seq (.region [⟨some 13, .bin .lss (.tmp 12) (.tmp 11), none⟩])
  (.seq (.cond (.tmp 13) (.skip) (.kill [0, 10, 11, 12, 13] (.exit 0)))
  (.seq (.block 1 (.seq (.region [⟨some 14, .iaddr 2 none (.tmp 10) (.tmp 12), none⟩,
    ⟨some 15, .load (some 2) (.tmp 14), none⟩,
    ⟨some 5, .alloc [.str ⟨#[]⟩, .int .i64 0], none⟩,
    ⟨none, .store 2 (.tmp 5) (.tmp 15), none⟩])
  (.seq (.region [⟨some 16, .mov (.tmp 0), none⟩,
    ⟨some 17, .faddr 0 (.tmp 5), none⟩,
    ⟨some 18, .load none (.tmp 17), none⟩,
    ⟨some 19, .call 78 [(.tmp 16), (.tmp 18)], none⟩])
  (.region [⟨some 20, .mov (.tmp 0), none⟩,
    ⟨some 21, .faddr 1 (.tmp 5), none⟩,
    ⟨some 22, .load none (.tmp 21), none⟩,
    ⟨some 23, .call 49 [(.tmp 20), (.tmp 22)], none⟩]))))
  (.region [⟨some 24, .bin .add (.tmp 12) (.con (.int .i64 1)), none⟩,
    ⟨some 12, .mov (.tmp 24), none⟩]))))
/-- regency/label.Put -/
def c_label_Put : CFn := ⟨25, .seq (.region [⟨some 6, .mov (.tmp 0), none⟩,
    ⟨some 7, .mov (.tmp 1), none⟩,
    ⟨some 8, .lenl (.tmp 7), none⟩,
    ⟨some 9, .call 49 [(.tmp 6), (.tmp 8)], none⟩])
  (.seq (.region [⟨some 10, .take (.tmp 1), none⟩,
    ⟨some 11, .lenl (.tmp 10), none⟩,
    ⟨some 12, .mov (.con (.int .i64 0)), none⟩])
  (.block 0 (.kill [1, 5, 6, 7, 8, 9, 13, 14, 15, 16, 17, 18, 19, 20, 21, 22, 23, 24] (.loop l_label_Put_0)))),
  []⟩
theorem is_label_Put : IsFn Tryd.prog 90 c_label_Put := isFn_of [([], []), ([], [0]), ([1, 5, 6, 7, 8, 9, 13, 14, 15, 16, 17, 18, 19, 20, 21, 22, 23, 24], []), ([], []), ([0, 10, 11, 12, 13], []), ([], []), ([], []), ([], []), ([], [])] (by kernel_rfl)

abbrev l_cats_Parse_1 : CC := .block 1 (.seq (.region [⟨some 38, .mov (.tmp 11), none⟩,
    ⟨some 39, .pcall 103 [(.tmp 38), (.con (.int .i64 1048576))], none⟩,
    ⟨some 37, .mov (.tmp 39), none⟩,
    ⟨some 40, .extract 37 0, none⟩,
    ⟨some 41, .extract 37 1, none⟩,
    ⟨some 12, .mov (.tmp 40), none⟩,
    ⟨some 13, .mov (.tmp 41), none⟩])
  (.seq (.seq (.region [⟨some 42, .mov (.tmp 13), none⟩,
    ⟨some 43, .un .not (.tmp 42), none⟩,
    ⟨some 44, .mov (.tmp 43), none⟩,
    ⟨some 45, .load none (.tmp 10), (some (44, false))⟩,
    ⟨some 46, .lenl (.tmp 45), (some (44, false))⟩,
    ⟨some 47, .bin .eql (.tmp 46) (.con (.int .i64 6)), (some (44, false))⟩,
    ⟨some 48, .pick (.tmp 44) (.con (.bool true)) (.tmp 47), none⟩])
  (.cond (.tmp 48) (.seq (.region [⟨none, .store 1 (.tmp 2) (.con (.sl .ex [])), none⟩,
    ⟨none, .store 1 (.tmp 3) (.con (.int .i64 0)), none⟩,
    ⟨none, .store 1 (.tmp 4) (.con (.bool false)), none⟩])
  (.ret)) (.skip)))
  (.region [⟨some 49, .ltake (.tmp 10), none⟩,
    ⟨some 50, .mov (.tmp 12), none⟩,
    ⟨some 51, .bslice 1 false [(.tmp 50)], none⟩,
    ⟨some 52, .append 1 8 false (.tmp 49) (.tmp 51), none⟩,
    ⟨none, .store 1 (.tmp 10) (.tmp 52), none⟩])))
abbrev l_cats_Parse_0 : CC := .region [⟨some 11, .mov (.tmp 36), none⟩]
/-- regency/cats.Parse -/
def c_cats_Parse : CFn := ⟨55, .seq (.region [⟨some 2, .alloc [.sl .ex []], none⟩,
    ⟨some 3, .alloc [.int .i64 0], none⟩,
    ⟨some 4, .alloc [.bool false], none⟩])
  (.seq (.region [⟨some 15, .mov (.tmp 0), none⟩,
    ⟨some 16, .pcall 102 [(.tmp 15), (.con (.str ⟨#[47]⟩))], none⟩,
    ⟨some 14, .mov (.tmp 16), none⟩,
    ⟨some 17, .extract 14 0, none⟩,
    ⟨some 18, .extract 14 1, none⟩,
    ⟨some 19, .extract 14 2, none⟩,
    ⟨some 5, .mov (.tmp 17), none⟩,
    ⟨some 6, .mov (.tmp 18), none⟩,
    ⟨some 7, .mov (.tmp 19), none⟩])
  (.seq (.region [⟨some 21, .mov (.tmp 6), none⟩,
    ⟨some 22, .pcall 103 [(.tmp 21), (.con (.int .i64 65535))], none⟩,
    ⟨some 20, .mov (.tmp 22), none⟩,
    ⟨some 23, .extract 20 0, none⟩,
    ⟨some 24, .extract 20 1, none⟩,
    ⟨some 8, .mov (.tmp 23), none⟩,
    ⟨some 9, .mov (.tmp 24), none⟩])
  (.seq (.seq (.region [⟨some 25, .mov (.tmp 7), none⟩,
    ⟨some 26, .un .not (.tmp 25), none⟩,
    ⟨some 27, .mov (.tmp 26), none⟩,
    ⟨some 28, .mov (.tmp 9), (some (27, false))⟩,
    ⟨some 29, .un .not (.tmp 28), (some (27, false))⟩,
    ⟨some 30, .pick (.tmp 27) (.con (.bool true)) (.tmp 29), none⟩])
  (.cond (.tmp 30) (.seq (.region [⟨none, .store 1 (.tmp 2) (.con (.sl .ex [])), none⟩,
    ⟨none, .store 1 (.tmp 3) (.con (.int .i64 0)), none⟩,
    ⟨none, .store 1 (.tmp 4) (.con (.bool false)), none⟩])
  (.ret)) (.skip)))
  (.seq (.seq (.region [⟨some 31, .mov (.tmp 5), none⟩,
    ⟨some 32, .bin .eql (.tmp 31) (.con (.str ⟨#[]⟩)), none⟩])
  (.cond (.tmp 32) (.seq (.region [⟨some 33, .mov (.tmp 8), none⟩,
    ⟨none, .store 1 (.tmp 2) (.con (.sl .ex [])), none⟩,
    ⟨none, .store 1 (.tmp 3) (.tmp 33), none⟩,
    ⟨none, .store 1 (.tmp 4) (.con (.bool true)), none⟩])
  (.ret)) (.skip)))
  (.seq (.region [⟨some 10, .alloc [.sl .ex []], none⟩])
  (.seq (.seq (.region [⟨some 34, .mov (.tmp 5), none⟩,
    ⟨some 35, .call 37 [(.tmp 34), (.con (.str ⟨#[46]⟩))], none⟩])
  (.block 0 (.rsplit (.tmp 35) 36 l_cats_Parse_0 l_cats_Parse_1)))
  (.seq (.region [⟨some 53, .load none (.tmp 10), none⟩,
    ⟨some 54, .mov (.tmp 8), none⟩,
    ⟨none, .store 1 (.tmp 2) (.tmp 53), none⟩,
    ⟨none, .store 1 (.tmp 3) (.tmp 54), none⟩,
    ⟨none, .store 1 (.tmp 4) (.con (.bool true)), none⟩])
  (.ret)))))))),
  [.cell 2 none, .cell 3 none, .cell 4 none]⟩
theorem is_cats_Parse : IsFn Tryd.prog 91 c_cats_Parse := isFn_of [([], []), ([], [1]), ([], [1]), ([], []), ([], []), ([], []), ([], []), ([], []), ([], []), ([], []), ([], []), ([], []), ([], [1]), ([], []), ([], []), ([], []), ([], [0]), ([], []), ([], [])] (by kernel_rfl)

/-- regency/label.at -/
def c_label_at : CFn := ⟨9, .seq (.region [⟨some 2, .box (.tmp 0), none⟩,
    ⟨some 4, .mov (.con (.int .i64 0)), none⟩])
  (.seq (.region [⟨some 5, .faddr 0 (.tmp 2), none⟩,
    ⟨some 6, .load none (.tmp 5), none⟩,
    ⟨some 7, .mov (.tmp 1), none⟩,
    ⟨some 8, .pcall 104 [(.tmp 6), (.tmp 7)], none⟩,
    ⟨some 4, .mov (.tmp 8), none⟩])
  (.ret)),
  [.tmp 4]⟩
theorem is_label_at : IsFn Tryd.prog 92 c_label_at := isFn_of [([], []), ([], [3]), ([], [])] (by kernel_rfl)

/-- internal/stringslite.Index -/
theorem ok_internal_stringslite_Index : OkDef Tryd.prog 94 (.prim index1P) := index1_ok (⟨Tryd.f94, Tryd.func94, by kernel_rfl, by kernel_rfl⟩ : Callable Tryd.prog 94) (fun s c w => Tryd.stringslite_Index_one s c w)

abbrev s_internal_strconv_ParseUint_0 (v1 v8 v9 v10 v11 v12 v13 v99 v100 v101 : AV) : List AV := [.any, v1, .any, undefA, undefA, undefA, .any, .any, v8, v9, v10, v11, v12, v13, undefA, .any, .any, .any, .any, .any, undefA, .any, .any, .any, undefA, .any, .any, .any, .any, .any, .any, .any, .any, .any, .any, .any, .any, .any, .any, .any, .any, .any, .any, .any, .any, .any, .any, .any, .any, .any, .any, .any, .any, .any, .any, .any, .any, .any, .any, .any, .any, .any, .any, .any, .any, .any, .any, .any, .any, .any, .any, .any, .any, .any, .any, .any, .any, .any, .any, .any, .any, .any, .any, .any, undefA, .any, .any, .any, .any, .any, .any, .any, .any, .any, .any, .any, .any, .any, .any, v99, v100, v101, .any, .any, .any, .any, .any, .any, .any, .any, .any, .any, .any, .any, .any, .any, .any, .any, .any, .any, .any, .any, .any, .any, .any, .any, .any, .any, .any, .any, .any, .any, .any, .any, .any, .any, .any, .any, .any, .any, .any, .any, .any, .any, .any, .any, .any, .any, .any, .any, .any, .any, .any, .any, .any, .any, .any, .any, .any, .any, .any, .any, .any, .any, undefA, undefA, undefA, undefA, undefA, undefA, undefA, undefA]
abbrev x_internal_strconv_ParseUint_3 (v9 v12 v13 : AV) : List AV := [.any, .any, .any, undefA, undefA, undefA, .any, .any, .any, v9, .any, .any, v12, v13, undefA, .any, .any, .any, .any, .any, undefA, .any, .any, .any, undefA, .any, .any, .any, .any, .any, .any, .any, .any, .any, .any, .any, .any, .any, .any, .any, .any, .any, .any, .any, .any, .any, .any, .any, .any, .any, .any, .any, .any, .any, .any, .any, .any, .any, .any, .any, .any, .any, .any, .any, .any, .any, .any, .any, .any, .any, .any, .any, .any, .any, .any, .any, .any, .any, .any, .any, .any, .any, .any, .any, undefA, .any, .any, .any, .any, .any, .any, .any, .any, .any, .any, .any, .any, .any, .any, .any, .any, .any, .any, .any, .any, .any, .any, .any, .any, .any, .any, .any, .any, .any, .any, .any, .any, .any, .any, .any, .any, .any, .any, .any, .any, .any, .any, .any, .any, .any, .any, .any, .any, .any, .any, .any, .any, .any, .any, .any, .any, .any, .any, .any, .any, .any, .any, .any, .any, .any, .any, .any, .any, .any, .any, .any, .any, .any, .any, .any, .any, .any, .any, .any, undefA, undefA, undefA, undefA, undefA, undefA, undefA, undefA]
abbrev x_internal_strconv_ParseUint_4 (v1 v8 v9 v10 v11 v12 v13 v99 v100 v101 : AV) : List AV := [.any, v1, .any, undefA, undefA, undefA, .any, .any, v8, v9, v10, v11, v12, v13, undefA, .any, .any, .any, .any, .any, undefA, .any, .any, .any, undefA, .any, .any, .any, .any, .any, .any, .any, .any, .any, .any, .any, .any, .any, .any, .any, .any, .any, .any, .any, .any, .any, .any, .any, .any, .any, .any, .any, .any, .any, .any, .any, .any, .any, .any, .any, .any, .any, .any, .any, .any, .any, .any, .any, .any, .any, .any, .any, .any, .any, .any, .any, .any, .any, .any, .any, .any, .any, .any, .any, undefA, .any, .any, .any, .any, .any, .any, .any, .any, .any, .any, .any, .any, .any, .any, v99, v100, v101, .any, .any, .any, .any, .any, .any, .any, .any, .any, .any, .any, .any, .any, .any, .any, .any, .any, .any, .any, .any, .any, .any, .any, .any, .any, .any, .any, .any, .any, .any, .any, .any, .any, .any, .any, .any, .any, .any, .any, .any, .any, .any, .any, .any, .any, .any, .any, .any, .any, .any, .any, .any, .any, .any, .any, .any, .any, .any, .any, .any, .any, .any, undefA, undefA, undefA, undefA, undefA, undefA, undefA, undefA]
abbrev l_internal_strconv_ParseUint_0 : CC := .kill [0, 2, 6, 7, 15, 16, 17, 18, 19, 21, 22, 23, 25, 26, 27, 28, 29, 30, 31, 32, 33, 34, 35, 36, 37, 38, 39, 40, 41, 42, 43, 44, 45, 46, 47, 48, 49, 50, 51, 52, 53, 54, 55, 56, 57, 58, 59, 60, 61, 62, 63, 64, 65, 66, 67, 68, 69, 70, 71, 72, 73, 74, 75, 76, 77, 78, 79, 80, 81, 82, 83, 85, 86, 87, 88, 89, 90, 91, 92, 93, 94, 95, 96, 97, 98, 102, 103, 104, 105, 106, 107, 108, 109, 110, 111, 112, 113, 114, 115, 116, 117, 118, 119, 120, 121, 122, 123, 124, 125, 126, 127, 128, 129, 130, 131, 132, 133, 134, 135, 136, 137, 138, 139, 140, 141, 142, 143, 144, 145, 146, 147, 148, 149, 150, 151, 152, 153, 154, 155, 156, 157, 158, 159, 160, 161, 162, 163] (.seq (.region [⟨some 102, .bin .lss (.tmp 101) (.tmp 100), none⟩])
  (.seq (.cond (.tmp 102) (.skip) (.kill [1, 8, 10, 11, 99, 100, 101, 102] (.exit 3)))
  (.seq (.block 4 (.seq (.region [⟨some 103, .iaddr 1 none (.tmp 99) (.tmp 101), none⟩,
    ⟨some 104, .load none (.tmp 103), none⟩,
    ⟨some 15, .mov (.tmp 104), none⟩])
  (.seq (.region [⟨some 16, .mov (.con (.int .u8 0)), none⟩])
  (.seq (.block 5 (.seq (.region [⟨some 107, .mov (.tmp 15), none⟩,
    ⟨some 108, .bin .eql (.tmp 107) (.con (.int .u8 95)), none⟩,
    ⟨some 109, .mov (.tmp 108), none⟩,
    ⟨some 110, .mov (.tmp 8), (some (109, true))⟩,
    ⟨some 111, .pick (.tmp 109) (.tmp 110) (.con (.bool false)), none⟩,
    ⟨some 106, .mov (.tmp 111), none⟩])
  (.cond (.tmp 106) (.seq (.region [⟨some 12, .mov (.con (.bool true)), none⟩])
  (.kill [15, 16, 102, 103, 104, 106, 107, 108, 109, 110, 111] (.exit 4))) (.seq (.region [⟨some 113, .mov (.tmp 15), none⟩,
    ⟨some 114, .bin .leq (.con (.int .u8 48)) (.tmp 113), none⟩,
    ⟨some 115, .mov (.tmp 114), none⟩,
    ⟨some 116, .mov (.tmp 15), (some (115, true))⟩,
    ⟨some 117, .bin .leq (.tmp 116) (.con (.int .u8 57)), (some (115, true))⟩,
    ⟨some 118, .pick (.tmp 115) (.tmp 117) (.con (.bool false)), none⟩,
    ⟨some 112, .mov (.tmp 118), none⟩])
  (.cond (.tmp 112) (.region [⟨some 119, .mov (.tmp 15), none⟩,
    ⟨some 120, .bin .sub (.tmp 119) (.con (.int .u8 48)), none⟩,
    ⟨some 16, .mov (.tmp 120), none⟩]) (.seq (.region [⟨some 122, .mov (.tmp 15), none⟩,
    ⟨some 123, .pcall 109 [(.tmp 122)], none⟩,
    ⟨some 124, .bin .leq (.con (.int .u8 97)) (.tmp 123), none⟩,
    ⟨some 125, .mov (.tmp 124), none⟩,
    ⟨some 126, .mov (.tmp 15), (some (125, true))⟩,
    ⟨some 127, .pcall 109 [(.tmp 126)], (some (125, true))⟩,
    ⟨some 128, .bin .leq (.tmp 127) (.con (.int .u8 122)), (some (125, true))⟩,
    ⟨some 129, .pick (.tmp 125) (.tmp 128) (.con (.bool false)), none⟩,
    ⟨some 121, .mov (.tmp 129), none⟩])
  (.cond (.tmp 121) (.region [⟨some 130, .mov (.tmp 15), none⟩,
    ⟨some 131, .pcall 109 [(.tmp 130)], none⟩,
    ⟨some 132, .bin .sub (.tmp 131) (.con (.int .u8 97)), none⟩,
    ⟨some 133, .bin .add (.tmp 132) (.con (.int .u8 10)), none⟩,
    ⟨some 16, .mov (.tmp 133), none⟩]) (.seq (.region [⟨some 105, .mkif 123 (.con (.int .i64 2)), none⟩,
    ⟨some 6, .mov (.con (.int .u64 0)), none⟩,
    ⟨some 7, .mov (.tmp 105), none⟩])
  (.ret)))))))))
  (.seq (.seq (.region [⟨some 134, .mov (.tmp 16), none⟩,
    ⟨some 135, .mov (.tmp 1), none⟩,
    ⟨some 136, .cInt .u8 (.tmp 135), none⟩,
    ⟨some 137, .bin .geq (.tmp 134) (.tmp 136), none⟩])
  (.cond (.tmp 137) (.seq (.region [⟨some 138, .mkif 123 (.con (.int .i64 2)), none⟩,
    ⟨some 6, .mov (.con (.int .u64 0)), none⟩,
    ⟨some 7, .mov (.tmp 138), none⟩])
  (.ret)) (.skip)))
  (.seq (.seq (.region [⟨some 139, .mov (.tmp 13), none⟩,
    ⟨some 140, .mov (.tmp 10), none⟩,
    ⟨some 141, .bin .geq (.tmp 139) (.tmp 140), none⟩])
  (.cond (.tmp 141) (.seq (.region [⟨some 142, .mov (.tmp 11), none⟩,
    ⟨some 143, .mkif 123 (.con (.int .i64 1)), none⟩,
    ⟨some 6, .mov (.tmp 142), none⟩,
    ⟨some 7, .mov (.tmp 143), none⟩])
  (.ret)) (.skip)))
  (.seq (.region [⟨some 144, .mov (.tmp 13), none⟩,
    ⟨some 145, .mov (.tmp 1), none⟩,
    ⟨some 146, .cInt .u64 (.tmp 145), none⟩,
    ⟨some 147, .bin .mul (.tmp 144) (.tmp 146), none⟩,
    ⟨some 13, .mov (.tmp 147), none⟩])
  (.seq (.region [⟨some 148, .mov (.tmp 13), none⟩,
    ⟨some 149, .mov (.tmp 16), none⟩,
    ⟨some 150, .cInt .u64 (.tmp 149), none⟩,
    ⟨some 151, .bin .add (.tmp 148) (.tmp 150), none⟩,
    ⟨some 17, .mov (.tmp 151), none⟩])
  (.seq (.seq (.region [⟨some 152, .mov (.tmp 17), none⟩,
    ⟨some 153, .mov (.tmp 13), none⟩,
    ⟨some 154, .bin .lss (.tmp 152) (.tmp 153), none⟩,
    ⟨some 155, .mov (.tmp 154), none⟩,
    ⟨some 156, .mov (.tmp 17), (some (155, false))⟩,
    ⟨some 157, .mov (.tmp 11), (some (155, false))⟩,
    ⟨some 158, .bin .gtr (.tmp 156) (.tmp 157), (some (155, false))⟩,
    ⟨some 159, .pick (.tmp 155) (.con (.bool true)) (.tmp 158), none⟩])
  (.cond (.tmp 159) (.seq (.region [⟨some 160, .mov (.tmp 11), none⟩,
    ⟨some 161, .mkif 123 (.con (.int .i64 1)), none⟩,
    ⟨some 6, .mov (.tmp 160), none⟩,
    ⟨some 7, .mov (.tmp 161), none⟩])
  (.ret)) (.skip)))
  (.region [⟨some 162, .mov (.tmp 17), none⟩,
    ⟨some 13, .mov (.tmp 162), none⟩]))))))))))
  (.kill [15, 16, 17, 102, 103, 104, 106, 107, 108, 109, 110, 111, 112, 113, 114, 115, 116, 117, 118, 119, 120, 121, 122, 123, 124, 125, 126, 127, 128, 129, 130, 131, 132, 133, 134, 135, 136, 137, 139, 140, 141, 144, 145, 146, 147, 148, 149, 150, 151, 152, 153, 154, 155, 156, 157, 158, 159, 162] (.region [⟨some 163, .bin .add (.tmp 101) (.con (.int .i64 1)), none⟩,
    ⟨some 101, .mov (.tmp 163), none⟩])))))
/-- internal/strconv.ParseUint -/
def c_internal_strconv_ParseUint : CFn := ⟨172, .seq (.region [⟨some 6, .mov (.con (.int .u64 0)), none⟩,
    ⟨some 7, .mov (.con (.nili)), none⟩])
  (.seq (.seq (.region [⟨some 18, .mov (.tmp 0), none⟩,
    ⟨some 19, .bin .eql (.tmp 18) (.con (.str ⟨#[]⟩)), none⟩])
  (.cond (.tmp 19) (.seq (.region [⟨some 20, .mkif 123 (.con (.int .i64 2)), none⟩,
    ⟨some 6, .mov (.con (.int .u64 0)), none⟩,
    ⟨some 7, .mov (.tmp 20), none⟩])
  (.ret)) (.skip)))
  (.seq (.region [⟨some 21, .mov (.tmp 1), none⟩,
    ⟨some 22, .bin .eql (.tmp 21) (.con (.int .i64 0)), none⟩,
    ⟨some 8, .mov (.tmp 22), none⟩])
  (.seq (.region [⟨some 23, .mov (.tmp 0), none⟩,
    ⟨some 9, .mov (.tmp 23), none⟩])
  (.seq (.block 0 (.seq (.region [⟨some 26, .mov (.tmp 1), none⟩,
    ⟨some 27, .bin .leq (.con (.int .i64 2)) (.tmp 26), none⟩,
    ⟨some 28, .mov (.tmp 27), none⟩,
    ⟨some 29, .mov (.tmp 1), (some (28, true))⟩,
    ⟨some 30, .bin .leq (.tmp 29) (.con (.int .i64 36)), (some (28, true))⟩,
    ⟨some 31, .pick (.tmp 28) (.tmp 30) (.con (.bool false)), none⟩,
    ⟨some 25, .mov (.tmp 31), none⟩])
  (.cond (.tmp 25) (.skip) (.seq (.region [⟨some 33, .mov (.tmp 1), none⟩,
    ⟨some 34, .bin .eql (.tmp 33) (.con (.int .i64 0)), none⟩,
    ⟨some 32, .mov (.tmp 34), none⟩])
  (.cond (.tmp 32) (.seq (.region [⟨some 1, .mov (.con (.int .i64 10)), none⟩])
  (.seq (.region [⟨some 35, .mov (.tmp 0), none⟩,
    ⟨some 36, .idxs (.tmp 35) (.con (.int .i64 0)), none⟩,
    ⟨some 37, .bin .eql (.tmp 36) (.con (.int .u8 48)), none⟩])
  (.cond (.tmp 37) (.block 1 (.seq (.region [⟨some 41, .mov (.tmp 0), none⟩,
    ⟨some 42, .lens (.tmp 41), none⟩,
    ⟨some 43, .bin .geq (.tmp 42) (.con (.int .i64 3)), none⟩,
    ⟨some 44, .mov (.tmp 43), none⟩,
    ⟨some 45, .mov (.tmp 0), (some (44, true))⟩,
    ⟨some 46, .idxs (.tmp 45) (.con (.int .i64 1)), (some (44, true))⟩,
    ⟨some 47, .pcall 109 [(.tmp 46)], (some (44, true))⟩,
    ⟨some 48, .bin .eql (.tmp 47) (.con (.int .u8 98)), (some (44, true))⟩,
    ⟨some 49, .pick (.tmp 44) (.tmp 48) (.con (.bool false)), none⟩,
    ⟨some 40, .mov (.tmp 49), none⟩])
  (.cond (.tmp 40) (.seq (.region [⟨some 1, .mov (.con (.int .i64 2)), none⟩])
  (.region [⟨some 50, .mov (.tmp 0), none⟩,
    ⟨some 51, .slice none (.tmp 50) (some (.con (.int .i64 2))) none none, none⟩,
    ⟨some 0, .mov (.tmp 51), none⟩])) (.seq (.region [⟨some 53, .mov (.tmp 0), none⟩,
    ⟨some 54, .lens (.tmp 53), none⟩,
    ⟨some 55, .bin .geq (.tmp 54) (.con (.int .i64 3)), none⟩,
    ⟨some 56, .mov (.tmp 55), none⟩,
    ⟨some 57, .mov (.tmp 0), (some (56, true))⟩,
    ⟨some 58, .idxs (.tmp 57) (.con (.int .i64 1)), (some (56, true))⟩,
    ⟨some 59, .pcall 109 [(.tmp 58)], (some (56, true))⟩,
    ⟨some 60, .bin .eql (.tmp 59) (.con (.int .u8 111)), (some (56, true))⟩,
    ⟨some 61, .pick (.tmp 56) (.tmp 60) (.con (.bool false)), none⟩,
    ⟨some 52, .mov (.tmp 61), none⟩])
  (.cond (.tmp 52) (.seq (.region [⟨some 1, .mov (.con (.int .i64 8)), none⟩])
  (.region [⟨some 62, .mov (.tmp 0), none⟩,
    ⟨some 63, .slice none (.tmp 62) (some (.con (.int .i64 2))) none none, none⟩,
    ⟨some 0, .mov (.tmp 63), none⟩])) (.seq (.region [⟨some 65, .mov (.tmp 0), none⟩,
    ⟨some 66, .lens (.tmp 65), none⟩,
    ⟨some 67, .bin .geq (.tmp 66) (.con (.int .i64 3)), none⟩,
    ⟨some 68, .mov (.tmp 67), none⟩,
    ⟨some 69, .mov (.tmp 0), (some (68, true))⟩,
    ⟨some 70, .idxs (.tmp 69) (.con (.int .i64 1)), (some (68, true))⟩,
    ⟨some 71, .pcall 109 [(.tmp 70)], (some (68, true))⟩,
    ⟨some 72, .bin .eql (.tmp 71) (.con (.int .u8 120)), (some (68, true))⟩,
    ⟨some 73, .pick (.tmp 68) (.tmp 72) (.con (.bool false)), none⟩,
    ⟨some 64, .mov (.tmp 73), none⟩])
  (.cond (.tmp 64) (.seq (.region [⟨some 1, .mov (.con (.int .i64 16)), none⟩])
  (.region [⟨some 74, .mov (.tmp 0), none⟩,
    ⟨some 75, .slice none (.tmp 74) (some (.con (.int .i64 2))) none none, none⟩,
    ⟨some 0, .mov (.tmp 75), none⟩])) (.seq (.region [⟨some 1, .mov (.con (.int .i64 8)), none⟩])
  (.region [⟨some 38, .mov (.tmp 0), none⟩,
    ⟨some 39, .slice none (.tmp 38) (some (.con (.int .i64 1))) none none, none⟩,
    ⟨some 0, .mov (.tmp 39), none⟩]))))))))) (.skip)))) (.seq (.region [⟨some 24, .mkif 123 (.con (.int .i64 3)), none⟩,
    ⟨some 6, .mov (.con (.int .u64 0)), none⟩,
    ⟨some 7, .mov (.tmp 24), none⟩])
  (.ret)))))))
  (.seq (.seq (.region [⟨some 76, .mov (.tmp 2), none⟩,
    ⟨some 77, .bin .eql (.tmp 76) (.con (.int .i64 0)), none⟩])
  (.cond (.tmp 77) (.region [⟨some 2, .mov (.con (.int .i64 64)), none⟩]) (.seq (.region [⟨some 78, .mov (.tmp 2), none⟩,
    ⟨some 79, .bin .lss (.tmp 78) (.con (.int .i64 0)), none⟩,
    ⟨some 80, .mov (.tmp 79), none⟩,
    ⟨some 81, .mov (.tmp 2), (some (80, false))⟩,
    ⟨some 82, .bin .gtr (.tmp 81) (.con (.int .i64 64)), (some (80, false))⟩,
    ⟨some 83, .pick (.tmp 80) (.con (.bool true)) (.tmp 82), none⟩])
  (.cond (.tmp 83) (.seq (.region [⟨some 84, .mkif 123 (.con (.int .i64 4)), none⟩,
    ⟨some 6, .mov (.con (.int .u64 0)), none⟩,
    ⟨some 7, .mov (.tmp 84), none⟩])
  (.ret)) (.skip)))))
  (.seq (.region [⟨some 10, .mov (.con (.int .u64 0)), none⟩])
  (.seq (.seq (.region [⟨some 85, .mov (.tmp 1), none⟩])
  (.block 2 (.seq (.region [⟨some 91, .bin .eql (.tmp 85) (.con (.int .i64 10)), none⟩,
    ⟨some 90, .mov (.tmp 91), none⟩])
  (.cond (.tmp 90) (.region [⟨some 10, .mov (.con (.int .u64 1844674407370955162)), none⟩]) (.seq (.region [⟨some 93, .bin .eql (.tmp 85) (.con (.int .i64 16)), none⟩,
    ⟨some 92, .mov (.tmp 93), none⟩])
  (.cond (.tmp 92) (.region [⟨some 10, .mov (.con (.int .u64 1152921504606846976)), none⟩]) (.region [⟨some 86, .mov (.tmp 1), none⟩,
    ⟨some 87, .cInt .u64 (.tmp 86), none⟩,
    ⟨some 88, .bin .quo (.con (.int .u64 18446744073709551615)) (.tmp 87), none⟩,
    ⟨some 89, .bin .add (.tmp 88) (.con (.int .u64 1)), none⟩,
    ⟨some 10, .mov (.tmp 89), none⟩])))))))
  (.seq (.region [⟨some 94, .mov (.tmp 2), none⟩,
    ⟨some 95, .cInt .u64 (.tmp 94), none⟩,
    ⟨some 96, .bin .shl (.con (.int .u64 1)) (.tmp 95), none⟩,
    ⟨some 97, .bin .sub (.tmp 96) (.con (.int .u64 1)), none⟩,
    ⟨some 11, .mov (.tmp 97), none⟩])
  (.seq (.region [⟨some 12, .mov (.con (.bool false)), none⟩])
  (.seq (.region [⟨some 13, .mov (.con (.int .u64 0)), none⟩])
  (.seq (.seq (.region [⟨some 98, .mov (.tmp 0), none⟩,
    ⟨some 99, .cStrBytes (.tmp 98), none⟩,
    ⟨some 100, .lenl (.tmp 99), none⟩,
    ⟨some 101, .mov (.con (.int .i64 0)), none⟩])
  (.block 3 (.kill [0, 2, 6, 7, 15, 16, 17, 18, 19, 21, 22, 23, 25, 26, 27, 28, 29, 30, 31, 32, 33, 34, 35, 36, 37, 38, 39, 40, 41, 42, 43, 44, 45, 46, 47, 48, 49, 50, 51, 52, 53, 54, 55, 56, 57, 58, 59, 60, 61, 62, 63, 64, 65, 66, 67, 68, 69, 70, 71, 72, 73, 74, 75, 76, 77, 78, 79, 80, 81, 82, 83, 85, 86, 87, 88, 89, 90, 91, 92, 93, 94, 95, 96, 97, 98, 102, 103, 104, 105, 106, 107, 108, 109, 110, 111, 112, 113, 114, 115, 116, 117, 118, 119, 120, 121, 122, 123, 124, 125, 126, 127, 128, 129, 130, 131, 132, 133, 134, 135, 136, 137, 138, 139, 140, 141, 142, 143, 144, 145, 146, 147, 148, 149, 150, 151, 152, 153, 154, 155, 156, 157, 158, 159, 160, 161, 162, 163] (.loop l_internal_strconv_ParseUint_0))))
  (.seq (.seq (.region [⟨some 164, .mov (.tmp 12), none⟩,
    ⟨some 165, .mov (.tmp 164), none⟩,
    ⟨some 166, .mov (.tmp 9), (some (165, true))⟩,
    ⟨some 167, .pcall 110 [(.tmp 166)], (some (165, true))⟩,
    ⟨some 168, .un .not (.tmp 167), (some (165, true))⟩,
    ⟨some 169, .pick (.tmp 165) (.tmp 168) (.con (.bool false)), none⟩])
  (.cond (.tmp 169) (.seq (.region [⟨some 170, .mkif 123 (.con (.int .i64 2)), none⟩,
    ⟨some 6, .mov (.con (.int .u64 0)), none⟩,
    ⟨some 7, .mov (.tmp 170), none⟩])
  (.ret)) (.skip)))
  (.seq (.region [⟨some 171, .mov (.tmp 13), none⟩,
    ⟨some 6, .mov (.tmp 171), none⟩,
    ⟨some 7, .mov (.con (.nili)), none⟩])
  (.ret)))))))))))))),
  [.tmp 6, .tmp 7]⟩
theorem is_internal_strconv_ParseUint : IsFn Tryd.prog 95 c_internal_strconv_ParseUint := isFn_of [([], []), ([], []), ([], []), ([], []), ([], []), ([], []), ([], []), ([], []), ([], []), ([], []), ([], [6]), ([], []), ([], []), ([], [6]), ([], []), ([], []), ([], [6]), ([], []), ([], []), ([], []), ([], []), ([], []), ([], []), ([], []), ([], []), ([], []), ([], []), ([], []), ([], []), ([], []), ([], []), ([], []), ([], []), ([], []), ([], []), ([], []), ([], []), ([], []), ([], []), ([0, 2, 6, 7, 15, 16, 17, 18, 19, 21, 22, 23, 25, 26, 27, 28, 29, 30, 31, 32, 33, 34, 35, 36, 37, 38, 39, 40, 41, 42, 43, 44, 45, 46, 47, 48, 49, 50, 51, 52, 53, 54, 55, 56, 57, 58, 59, 60, 61, 62, 63, 64, 65, 66, 67, 68, 69, 70, 71, 72, 73, 74, 75, 76, 77, 78, 79, 80, 81, 82, 83, 85, 86, 87, 88, 89, 90, 91, 92, 93, 94, 95, 96, 97, 98, 102, 103, 104, 105, 106, 107, 108, 109, 110, 111, 112, 113, 114, 115, 116, 117, 118, 119, 120, 121, 122, 123, 124, 125, 126, 127, 128, 129, 130, 131, 132, 133, 134, 135, 136, 137, 138, 139, 140, 141, 142, 143, 144, 145, 146, 147, 148, 149, 150, 151, 152, 153, 154, 155, 156, 157, 158, 159, 160, 161, 162, 163], []), ([], []), ([1, 8, 10, 11, 99, 100, 101, 102], []), ([], []), ([], []), ([], []), ([], []), ([15, 16, 102, 103, 104, 106, 107, 108, 109, 110, 111], []), ([], []), ([], []), ([], [1, 5]), ([], [1]), ([], []), ([], []), ([], []), ([], []), ([], []), ([], []), ([], []), ([], []), ([], []), ([], []), ([], []), ([], []), ([], []), ([], []), ([15, 16, 17, 102, 103, 104, 106, 107, 108, 109, 110, 111, 112, 113, 114, 115, 116, 117, 118, 119, 120, 121, 122, 123, 124, 125, 126, 127, 128, 129, 130, 131, 132, 133, 134, 135, 136, 137, 139, 140, 141, 144, 145, 146, 147, 148, 149, 150, 151, 152, 153, 154, 155, 156, 157, 158, 159, 162], []), ([], [3]), ([], []), ([], []), ([], []), ([], [])] (by kernel_rfl)

/-- errors.New -/
def c_errors_New : CFn := ⟨7, .seq (.region [⟨some 2, .mov (.con (.nili)), none⟩])
  (.seq (.region [⟨some 3, .mov (.tmp 0), none⟩,
    ⟨some 4, .build [.str ⟨#[]⟩] [(0, 1, (.tmp 3))], none⟩,
    ⟨some 5, .rbox (.tmp 4), none⟩,
    ⟨some 6, .mkif 163 (.tmp 5), none⟩,
    ⟨some 2, .mov (.tmp 6), none⟩])
  (.ret)),
  [.tmp 2]⟩
theorem is_errors_New : IsFn Tryd.prog 97 c_errors_New := isFn_of [([], []), ([], [2]), ([], [])] (by kernel_rfl)

/-- internal/strconv.small -/
def c_internal_strconv_small : CFn := ⟨15, .seq (.region [⟨some 2, .mov (.con (.str ⟨#[]⟩)), none⟩])
  (.seq (.seq (.region [⟨some 3, .mov (.tmp 0), none⟩,
    ⟨some 4, .bin .lss (.tmp 3) (.con (.int .i64 10)), none⟩])
  (.cond (.tmp 4) (.seq (.region [⟨some 5, .mov (.tmp 0), none⟩,
    ⟨some 6, .mov (.tmp 0), none⟩,
    ⟨some 7, .bin .add (.tmp 6) (.con (.int .i64 1)), none⟩,
    ⟨some 8, .slice none (.con (.str ⟨#[48, 49, 50, 51, 52, 53, 54, 55, 56, 57, 97, 98, 99, 100, 101, 102, 103, 104, 105, 106, 107, 108, 109, 110, 111, 112, 113, 114, 115, 116, 117, 118, 119, 120, 121, 122]⟩)) (some (.tmp 5)) (some (.tmp 7)) none, none⟩,
    ⟨some 2, .mov (.tmp 8), none⟩])
  (.ret)) (.skip)))
  (.seq (.region [⟨some 9, .mov (.tmp 0), none⟩,
    ⟨some 10, .bin .mul (.tmp 9) (.con (.int .i64 2)), none⟩,
    ⟨some 11, .mov (.tmp 0), none⟩,
    ⟨some 12, .bin .mul (.tmp 11) (.con (.int .i64 2)), none⟩,
    ⟨some 13, .bin .add (.tmp 12) (.con (.int .i64 2)), none⟩,
    ⟨some 14, .slice none (.con (.str ⟨#[48, 48, 48, 49, 48, 50, 48, 51, 48, 52, 48, 53, 48, 54, 48, 55, 48, 56, 48, 57, 49, 48, 49, 49, 49, 50, 49, 51, 49, 52, 49, 53, 49, 54, 49, 55, 49, 56, 49, 57, 50, 48, 50, 49, 50, 50, 50, 51, 50, 52, 50, 53, 50, 54, 50, 55, 50, 56, 50, 57, 51, 48, 51, 49, 51, 50, 51, 51, 51, 52, 51, 53, 51, 54, 51, 55, 51, 56, 51, 57, 52, 48, 52, 49, 52, 50, 52, 51, 52, 52, 52, 53, 52, 54, 52, 55, 52, 56, 52, 57, 53, 48, 53, 49, 53, 50, 53, 51, 53, 52, 53, 53, 53, 54, 53, 55, 53, 56, 53, 57, 54, 48, 54, 49, 54, 50, 54, 51, 54, 52, 54, 53, 54, 54, 54, 55, 54, 56, 54, 57, 55, 48, 55, 49, 55, 50, 55, 51, 55, 52, 55, 53, 55, 54, 55, 55, 55, 56, 55, 57, 56, 48, 56, 49, 56, 50, 56, 51, 56, 52, 56, 53, 56, 54, 56, 55, 56, 56, 56, 57, 57, 48, 57, 49, 57, 50, 57, 51, 57, 52, 57, 53, 57, 54, 57, 55, 57, 56, 57, 57]⟩)) (some (.tmp 10)) (some (.tmp 13)) none, none⟩,
    ⟨some 2, .mov (.tmp 14), none⟩])
  (.ret))),
  [.tmp 2]⟩
theorem is_internal_strconv_small : IsFn Tryd.prog 98 c_internal_strconv_small := isFn_of [([], []), ([], []), ([], []), ([], []), ([], []), ([], [])] (by kernel_rfl)

abbrev s_internal_strconv_formatBase10_0 (v0 v1 v4 : AV) : List AV := [v0, v1, undefA, undefA, v4, .any, .any, .any, .any, .any, .any, .any, undefA, undefA, undefA, undefA, undefA, .any, .any, .any, .any, .any, .any, .any, .any, .any, .any, .any, .any, .any, .any, .any, .any, .any, .any, .any, .any, .any, .any, .any, .any, .any, .any, .any, .any, .any, .any, .any, .any, .any, .any, .any, .any, .any, .any, .any, .any, .any, .any, .any, .any, .any, .any, .any, .any, .any, .any, .any, .any, .any, .any, .any, .any, .any, .any, .any, .any, .any, .any, .any, .any, .any, .any, .any, .any, .any, .any, .any, .any, .any, .any, .any, .any, .any, .any, .any, undefA, undefA, undefA, undefA, undefA, undefA, undefA, undefA, undefA, undefA, undefA, undefA, undefA, undefA, undefA, undefA, undefA, undefA, undefA, undefA, undefA, undefA, undefA, undefA, undefA, undefA, undefA, undefA, undefA, undefA, undefA, undefA, undefA, undefA, undefA, undefA, undefA, undefA, undefA, undefA, undefA, undefA, undefA, undefA, undefA, undefA, undefA, undefA, undefA, undefA, undefA, undefA, undefA, undefA, undefA, undefA, undefA, undefA, undefA, undefA, undefA, undefA, undefA, undefA, undefA, undefA, undefA, undefA, undefA, undefA, undefA]
abbrev x_internal_strconv_formatBase10_0 (v0 v1 v4 : AV) : List AV := [v0, v1, undefA, undefA, v4, .any, .any, .any, .any, .any, .any, .any, undefA, undefA, undefA, undefA, undefA, .any, .any, .any, .any, .any, .any, .any, .any, .any, .any, .any, .any, .any, .any, .any, .any, .any, .any, .any, .any, .any, .any, .any, .any, .any, .any, .any, .any, .any, .any, .any, .any, .any, .any, .any, .any, .any, .any, .any, .any, .any, .any, .any, .any, .any, .any, .any, .any, .any, .any, .any, .any, .any, .any, .any, .any, .any, .any, .any, .any, .any, .any, .any, .any, .any, .any, .any, .any, .any, .any, .any, .any, .any, .any, .any, .any, .any, .any, .any, undefA, undefA, undefA, undefA, undefA, undefA, undefA, undefA, undefA, undefA, undefA, undefA, undefA, undefA, undefA, undefA, undefA, undefA, undefA, undefA, undefA, undefA, undefA, undefA, undefA, undefA, undefA, undefA, undefA, undefA, undefA, undefA, undefA, undefA, undefA, undefA, undefA, undefA, undefA, undefA, undefA, undefA, undefA, undefA, undefA, undefA, undefA, undefA, undefA, undefA, undefA, undefA, undefA, undefA, undefA, undefA, undefA, undefA, undefA, undefA, undefA, undefA, undefA, undefA, undefA, undefA, undefA, undefA, undefA, undefA, undefA]
abbrev l_internal_strconv_formatBase10_0 : CC := .kill [5, 6, 7, 8, 9, 10, 11, 17, 18, 19, 20, 21, 22, 23, 24, 25, 26, 27, 28, 29, 30, 31, 32, 33, 34, 35, 36, 37, 38, 39, 40, 41, 42, 43, 44, 45, 46, 47, 48, 49, 50, 51, 52, 53, 54, 55, 56, 57, 58, 59, 60, 61, 62, 63, 64, 65, 66, 67, 68, 69, 70, 71, 72, 73, 74, 75, 76, 77, 78, 79, 80, 81, 82, 83, 84, 85, 86, 87, 88, 89, 90, 91, 92, 93, 94, 95] (.seq (.seq (.region [⟨some 19, .mov (.tmp 4), none⟩,
    ⟨some 20, .bin .geq (.tmp 19) (.con (.int .i64 8)), none⟩])
  (.cond (.tmp 20) (.skip) (.kill [19, 20] (.exit 0))))
  (.block 1 (.seq (.region [⟨some 21, .mov (.tmp 1), none⟩,
    ⟨some 22, .bin .rem (.tmp 21) (.con (.int .u64 100000000)), none⟩,
    ⟨some 23, .cInt .u32 (.tmp 22), none⟩,
    ⟨some 5, .mov (.tmp 23), none⟩])
  (.seq (.region [⟨some 24, .mov (.tmp 1), none⟩,
    ⟨some 25, .bin .quo (.tmp 24) (.con (.int .u64 100000000)), none⟩,
    ⟨some 1, .mov (.tmp 25), none⟩])
  (.seq (.region [⟨some 26, .mov (.tmp 5), none⟩,
    ⟨some 27, .bin .quo (.tmp 26) (.con (.int .u32 10000)), none⟩,
    ⟨some 28, .mov (.tmp 5), none⟩,
    ⟨some 29, .bin .rem (.tmp 28) (.con (.int .u32 10000)), none⟩,
    ⟨some 6, .mov (.tmp 27), none⟩,
    ⟨some 7, .mov (.tmp 29), none⟩])
  (.seq (.region [⟨some 30, .mov (.tmp 7), none⟩,
    ⟨some 31, .bin .quo (.tmp 30) (.con (.int .u32 100)), none⟩,
    ⟨some 32, .bin .mul (.tmp 31) (.con (.int .u32 2)), none⟩,
    ⟨some 33, .mov (.tmp 7), none⟩,
    ⟨some 34, .bin .rem (.tmp 33) (.con (.int .u32 100)), none⟩,
    ⟨some 35, .bin .mul (.tmp 34) (.con (.int .u32 2)), none⟩,
    ⟨some 8, .mov (.tmp 32), none⟩,
    ⟨some 9, .mov (.tmp 35), none⟩])
  (.seq (.region [⟨some 36, .mov (.tmp 6), none⟩,
    ⟨some 37, .bin .quo (.tmp 36) (.con (.int .u32 100)), none⟩,
    ⟨some 38, .bin .mul (.tmp 37) (.con (.int .u32 2)), none⟩,
    ⟨some 39, .mov (.tmp 6), none⟩,
    ⟨some 40, .bin .rem (.tmp 39) (.con (.int .u32 100)), none⟩,
    ⟨some 41, .bin .mul (.tmp 40) (.con (.int .u32 2)), none⟩,
    ⟨some 10, .mov (.tmp 38), none⟩,
    ⟨some 11, .mov (.tmp 41), none⟩])
  (.seq (.region [⟨some 42, .mov (.tmp 0), none⟩,
    ⟨some 43, .mov (.tmp 4), none⟩,
    ⟨some 44, .bin .sub (.tmp 43) (.con (.int .i64 1)), none⟩,
    ⟨some 45, .mov (.tmp 0), none⟩,
    ⟨some 46, .mov (.tmp 4), none⟩,
    ⟨some 47, .bin .sub (.tmp 46) (.con (.int .i64 2)), none⟩,
    ⟨some 48, .mov (.tmp 9), none⟩,
    ⟨some 49, .bin .add (.tmp 48) (.con (.int .u32 1)), none⟩,
    ⟨some 50, .idxs (.con (.str ⟨#[48, 48, 48, 49, 48, 50, 48, 51, 48, 52, 48, 53, 48, 54, 48, 55, 48, 56, 48, 57, 49, 48, 49, 49, 49, 50, 49, 51, 49, 52, 49, 53, 49, 54, 49, 55, 49, 56, 49, 57, 50, 48, 50, 49, 50, 50, 50, 51, 50, 52, 50, 53, 50, 54, 50, 55, 50, 56, 50, 57, 51, 48, 51, 49, 51, 50, 51, 51, 51, 52, 51, 53, 51, 54, 51, 55, 51, 56, 51, 57, 52, 48, 52, 49, 52, 50, 52, 51, 52, 52, 52, 53, 52, 54, 52, 55, 52, 56, 52, 57, 53, 48, 53, 49, 53, 50, 53, 51, 53, 52, 53, 53, 53, 54, 53, 55, 53, 56, 53, 57, 54, 48, 54, 49, 54, 50, 54, 51, 54, 52, 54, 53, 54, 54, 54, 55, 54, 56, 54, 57, 55, 48, 55, 49, 55, 50, 55, 51, 55, 52, 55, 53, 55, 54, 55, 55, 55, 56, 55, 57, 56, 48, 56, 49, 56, 50, 56, 51, 56, 52, 56, 53, 56, 54, 56, 55, 56, 56, 56, 57, 57, 48, 57, 49, 57, 50, 57, 51, 57, 52, 57, 53, 57, 54, 57, 55, 57, 56, 57, 57]⟩)) (.tmp 49), none⟩,
    ⟨some 51, .mov (.tmp 9), none⟩,
    ⟨some 52, .idxs (.con (.str ⟨#[48, 48, 48, 49, 48, 50, 48, 51, 48, 52, 48, 53, 48, 54, 48, 55, 48, 56, 48, 57, 49, 48, 49, 49, 49, 50, 49, 51, 49, 52, 49, 53, 49, 54, 49, 55, 49, 56, 49, 57, 50, 48, 50, 49, 50, 50, 50, 51, 50, 52, 50, 53, 50, 54, 50, 55, 50, 56, 50, 57, 51, 48, 51, 49, 51, 50, 51, 51, 51, 52, 51, 53, 51, 54, 51, 55, 51, 56, 51, 57, 52, 48, 52, 49, 52, 50, 52, 51, 52, 52, 52, 53, 52, 54, 52, 55, 52, 56, 52, 57, 53, 48, 53, 49, 53, 50, 53, 51, 53, 52, 53, 53, 53, 54, 53, 55, 53, 56, 53, 57, 54, 48, 54, 49, 54, 50, 54, 51, 54, 52, 54, 53, 54, 54, 54, 55, 54, 56, 54, 57, 55, 48, 55, 49, 55, 50, 55, 51, 55, 52, 55, 53, 55, 54, 55, 55, 55, 56, 55, 57, 56, 48, 56, 49, 56, 50, 56, 51, 56, 52, 56, 53, 56, 54, 56, 55, 56, 56, 56, 57, 57, 48, 57, 49, 57, 50, 57, 51, 57, 52, 57, 53, 57, 54, 57, 55, 57, 56, 57, 57]⟩)) (.tmp 51), none⟩,
    ⟨some 53, .iaddr 1 none (.tmp 42) (.tmp 44), none⟩,
    ⟨none, .store 1 (.tmp 53) (.tmp 50), none⟩,
    ⟨some 54, .iaddr 1 none (.tmp 45) (.tmp 47), none⟩,
    ⟨none, .store 1 (.tmp 54) (.tmp 52), none⟩])
  (.seq (.region [⟨some 55, .mov (.tmp 0), none⟩,
    ⟨some 56, .mov (.tmp 4), none⟩,
    ⟨some 57, .bin .sub (.tmp 56) (.con (.int .i64 3)), none⟩,
    ⟨some 58, .mov (.tmp 0), none⟩,
    ⟨some 59, .mov (.tmp 4), none⟩,
    ⟨some 60, .bin .sub (.tmp 59) (.con (.int .i64 4)), none⟩,
    ⟨some 61, .mov (.tmp 8), none⟩,
    ⟨some 62, .bin .add (.tmp 61) (.con (.int .u32 1)), none⟩,
    ⟨some 63, .idxs (.con (.str ⟨#[48, 48, 48, 49, 48, 50, 48, 51, 48, 52, 48, 53, 48, 54, 48, 55, 48, 56, 48, 57, 49, 48, 49, 49, 49, 50, 49, 51, 49, 52, 49, 53, 49, 54, 49, 55, 49, 56, 49, 57, 50, 48, 50, 49, 50, 50, 50, 51, 50, 52, 50, 53, 50, 54, 50, 55, 50, 56, 50, 57, 51, 48, 51, 49, 51, 50, 51, 51, 51, 52, 51, 53, 51, 54, 51, 55, 51, 56, 51, 57, 52, 48, 52, 49, 52, 50, 52, 51, 52, 52, 52, 53, 52, 54, 52, 55, 52, 56, 52, 57, 53, 48, 53, 49, 53, 50, 53, 51, 53, 52, 53, 53, 53, 54, 53, 55, 53, 56, 53, 57, 54, 48, 54, 49, 54, 50, 54, 51, 54, 52, 54, 53, 54, 54, 54, 55, 54, 56, 54, 57, 55, 48, 55, 49, 55, 50, 55, 51, 55, 52, 55, 53, 55, 54, 55, 55, 55, 56, 55, 57, 56, 48, 56, 49, 56, 50, 56, 51, 56, 52, 56, 53, 56, 54, 56, 55, 56, 56, 56, 57, 57, 48, 57, 49, 57, 50, 57, 51, 57, 52, 57, 53, 57, 54, 57, 55, 57, 56, 57, 57]⟩)) (.tmp 62), none⟩,
    ⟨some 64, .mov (.tmp 8), none⟩,
    ⟨some 65, .idxs (.con (.str ⟨#[48, 48, 48, 49, 48, 50, 48, 51, 48, 52, 48, 53, 48, 54, 48, 55, 48, 56, 48, 57, 49, 48, 49, 49, 49, 50, 49, 51, 49, 52, 49, 53, 49, 54, 49, 55, 49, 56, 49, 57, 50, 48, 50, 49, 50, 50, 50, 51, 50, 52, 50, 53, 50, 54, 50, 55, 50, 56, 50, 57, 51, 48, 51, 49, 51, 50, 51, 51, 51, 52, 51, 53, 51, 54, 51, 55, 51, 56, 51, 57, 52, 48, 52, 49, 52, 50, 52, 51, 52, 52, 52, 53, 52, 54, 52, 55, 52, 56, 52, 57, 53, 48, 53, 49, 53, 50, 53, 51, 53, 52, 53, 53, 53, 54, 53, 55, 53, 56, 53, 57, 54, 48, 54, 49, 54, 50, 54, 51, 54, 52, 54, 53, 54, 54, 54, 55, 54, 56, 54, 57, 55, 48, 55, 49, 55, 50, 55, 51, 55, 52, 55, 53, 55, 54, 55, 55, 55, 56, 55, 57, 56, 48, 56, 49, 56, 50, 56, 51, 56, 52, 56, 53, 56, 54, 56, 55, 56, 56, 56, 57, 57, 48, 57, 49, 57, 50, 57, 51, 57, 52, 57, 53, 57, 54, 57, 55, 57, 56, 57, 57]⟩)) (.tmp 64), none⟩,
    ⟨some 66, .iaddr 1 none (.tmp 55) (.tmp 57), none⟩,
    ⟨none, .store 1 (.tmp 66) (.tmp 63), none⟩,
    ⟨some 67, .iaddr 1 none (.tmp 58) (.tmp 60), none⟩,
    ⟨none, .store 1 (.tmp 67) (.tmp 65), none⟩])
  (.seq (.region [⟨some 68, .mov (.tmp 0), none⟩,
    ⟨some 69, .mov (.tmp 4), none⟩,
    ⟨some 70, .bin .sub (.tmp 69) (.con (.int .i64 5)), none⟩,
    ⟨some 71, .mov (.tmp 0), none⟩,
    ⟨some 72, .mov (.tmp 4), none⟩,
    ⟨some 73, .bin .sub (.tmp 72) (.con (.int .i64 6)), none⟩,
    ⟨some 74, .mov (.tmp 11), none⟩,
    ⟨some 75, .bin .add (.tmp 74) (.con (.int .u32 1)), none⟩,
    ⟨some 76, .idxs (.con (.str ⟨#[48, 48, 48, 49, 48, 50, 48, 51, 48, 52, 48, 53, 48, 54, 48, 55, 48, 56, 48, 57, 49, 48, 49, 49, 49, 50, 49, 51, 49, 52, 49, 53, 49, 54, 49, 55, 49, 56, 49, 57, 50, 48, 50, 49, 50, 50, 50, 51, 50, 52, 50, 53, 50, 54, 50, 55, 50, 56, 50, 57, 51, 48, 51, 49, 51, 50, 51, 51, 51, 52, 51, 53, 51, 54, 51, 55, 51, 56, 51, 57, 52, 48, 52, 49, 52, 50, 52, 51, 52, 52, 52, 53, 52, 54, 52, 55, 52, 56, 52, 57, 53, 48, 53, 49, 53, 50, 53, 51, 53, 52, 53, 53, 53, 54, 53, 55, 53, 56, 53, 57, 54, 48, 54, 49, 54, 50, 54, 51, 54, 52, 54, 53, 54, 54, 54, 55, 54, 56, 54, 57, 55, 48, 55, 49, 55, 50, 55, 51, 55, 52, 55, 53, 55, 54, 55, 55, 55, 56, 55, 57, 56, 48, 56, 49, 56, 50, 56, 51, 56, 52, 56, 53, 56, 54, 56, 55, 56, 56, 56, 57, 57, 48, 57, 49, 57, 50, 57, 51, 57, 52, 57, 53, 57, 54, 57, 55, 57, 56, 57, 57]⟩)) (.tmp 75), none⟩,
    ⟨some 77, .mov (.tmp 11), none⟩,
    ⟨some 78, .idxs (.con (.str ⟨#[48, 48, 48, 49, 48, 50, 48, 51, 48, 52, 48, 53, 48, 54, 48, 55, 48, 56, 48, 57, 49, 48, 49, 49, 49, 50, 49, 51, 49, 52, 49, 53, 49, 54, 49, 55, 49, 56, 49, 57, 50, 48, 50, 49, 50, 50, 50, 51, 50, 52, 50, 53, 50, 54, 50, 55, 50, 56, 50, 57, 51, 48, 51, 49, 51, 50, 51, 51, 51, 52, 51, 53, 51, 54, 51, 55, 51, 56, 51, 57, 52, 48, 52, 49, 52, 50, 52, 51, 52, 52, 52, 53, 52, 54, 52, 55, 52, 56, 52, 57, 53, 48, 53, 49, 53, 50, 53, 51, 53, 52, 53, 53, 53, 54, 53, 55, 53, 56, 53, 57, 54, 48, 54, 49, 54, 50, 54, 51, 54, 52, 54, 53, 54, 54, 54, 55, 54, 56, 54, 57, 55, 48, 55, 49, 55, 50, 55, 51, 55, 52, 55, 53, 55, 54, 55, 55, 55, 56, 55, 57, 56, 48, 56, 49, 56, 50, 56, 51, 56, 52, 56, 53, 56, 54, 56, 55, 56, 56, 56, 57, 57, 48, 57, 49, 57, 50, 57, 51, 57, 52, 57, 53, 57, 54, 57, 55, 57, 56, 57, 57]⟩)) (.tmp 77), none⟩,
    ⟨some 79, .iaddr 1 none (.tmp 68) (.tmp 70), none⟩,
    ⟨none, .store 1 (.tmp 79) (.tmp 76), none⟩,
    ⟨some 80, .iaddr 1 none (.tmp 71) (.tmp 73), none⟩,
    ⟨none, .store 1 (.tmp 80) (.tmp 78), none⟩])
  (.seq (.region [⟨some 81, .mov (.tmp 0), none⟩,
    ⟨some 82, .mov (.tmp 4), none⟩,
    ⟨some 83, .bin .sub (.tmp 82) (.con (.int .i64 7)), none⟩,
    ⟨some 84, .mov (.tmp 0), none⟩,
    ⟨some 85, .mov (.tmp 4), none⟩,
    ⟨some 86, .bin .sub (.tmp 85) (.con (.int .i64 8)), none⟩,
    ⟨some 87, .mov (.tmp 10), none⟩,
    ⟨some 88, .bin .add (.tmp 87) (.con (.int .u32 1)), none⟩,
    ⟨some 89, .idxs (.con (.str ⟨#[48, 48, 48, 49, 48, 50, 48, 51, 48, 52, 48, 53, 48, 54, 48, 55, 48, 56, 48, 57, 49, 48, 49, 49, 49, 50, 49, 51, 49, 52, 49, 53, 49, 54, 49, 55, 49, 56, 49, 57, 50, 48, 50, 49, 50, 50, 50, 51, 50, 52, 50, 53, 50, 54, 50, 55, 50, 56, 50, 57, 51, 48, 51, 49, 51, 50, 51, 51, 51, 52, 51, 53, 51, 54, 51, 55, 51, 56, 51, 57, 52, 48, 52, 49, 52, 50, 52, 51, 52, 52, 52, 53, 52, 54, 52, 55, 52, 56, 52, 57, 53, 48, 53, 49, 53, 50, 53, 51, 53, 52, 53, 53, 53, 54, 53, 55, 53, 56, 53, 57, 54, 48, 54, 49, 54, 50, 54, 51, 54, 52, 54, 53, 54, 54, 54, 55, 54, 56, 54, 57, 55, 48, 55, 49, 55, 50, 55, 51, 55, 52, 55, 53, 55, 54, 55, 55, 55, 56, 55, 57, 56, 48, 56, 49, 56, 50, 56, 51, 56, 52, 56, 53, 56, 54, 56, 55, 56, 56, 56, 57, 57, 48, 57, 49, 57, 50, 57, 51, 57, 52, 57, 53, 57, 54, 57, 55, 57, 56, 57, 57]⟩)) (.tmp 88), none⟩,
    ⟨some 90, .mov (.tmp 10), none⟩,
    ⟨some 91, .idxs (.con (.str ⟨#[48, 48, 48, 49, 48, 50, 48, 51, 48, 52, 48, 53, 48, 54, 48, 55, 48, 56, 48, 57, 49, 48, 49, 49, 49, 50, 49, 51, 49, 52, 49, 53, 49, 54, 49, 55, 49, 56, 49, 57, 50, 48, 50, 49, 50, 50, 50, 51, 50, 52, 50, 53, 50, 54, 50, 55, 50, 56, 50, 57, 51, 48, 51, 49, 51, 50, 51, 51, 51, 52, 51, 53, 51, 54, 51, 55, 51, 56, 51, 57, 52, 48, 52, 49, 52, 50, 52, 51, 52, 52, 52, 53, 52, 54, 52, 55, 52, 56, 52, 57, 53, 48, 53, 49, 53, 50, 53, 51, 53, 52, 53, 53, 53, 54, 53, 55, 53, 56, 53, 57, 54, 48, 54, 49, 54, 50, 54, 51, 54, 52, 54, 53, 54, 54, 54, 55, 54, 56, 54, 57, 55, 48, 55, 49, 55, 50, 55, 51, 55, 52, 55, 53, 55, 54, 55, 55, 55, 56, 55, 57, 56, 48, 56, 49, 56, 50, 56, 51, 56, 52, 56, 53, 56, 54, 56, 55, 56, 56, 56, 57, 57, 48, 57, 49, 57, 50, 57, 51, 57, 52, 57, 53, 57, 54, 57, 55, 57, 56, 57, 57]⟩)) (.tmp 90), none⟩,
    ⟨some 92, .iaddr 1 none (.tmp 81) (.tmp 83), none⟩,
    ⟨none, .store 1 (.tmp 92) (.tmp 89), none⟩,
    ⟨some 93, .iaddr 1 none (.tmp 84) (.tmp 86), none⟩,
    ⟨none, .store 1 (.tmp 93) (.tmp 91), none⟩])
  (.region [⟨some 94, .mov (.tmp 4), none⟩,
    ⟨some 95, .bin .sub (.tmp 94) (.con (.int .i64 8)), none⟩,
    ⟨some 4, .mov (.tmp 95), none⟩]))))))))))))
/-- internal/strconv.formatBase10 -/
def c_internal_strconv_formatBase10 : CFn := ⟨167, .seq (.region [⟨some 17, .mov (.tmp 0), none⟩,
    ⟨some 18, .lenl (.tmp 17), none⟩,
    ⟨some 4, .mov (.tmp 18), none⟩])
  (.seq (.block 0 (.kill [5, 6, 7, 8, 9, 10, 11, 17, 18, 19, 20, 21, 22, 23, 24, 25, 26, 27, 28, 29, 30, 31, 32, 33, 34, 35, 36, 37, 38, 39, 40, 41, 42, 43, 44, 45, 46, 47, 48, 49, 50, 51, 52, 53, 54, 55, 56, 57, 58, 59, 60, 61, 62, 63, 64, 65, 66, 67, 68, 69, 70, 71, 72, 73, 74, 75, 76, 77, 78, 79, 80, 81, 82, 83, 84, 85, 86, 87, 88, 89, 90, 91, 92, 93, 94, 95] (.loop l_internal_strconv_formatBase10_0)))
  (.seq (.region [⟨some 96, .mov (.tmp 1), none⟩,
    ⟨some 97, .cInt .u32 (.tmp 96), none⟩,
    ⟨some 12, .mov (.tmp 97), none⟩])
  (.seq (.seq (.region [⟨some 98, .mov (.tmp 4), none⟩,
    ⟨some 99, .bin .geq (.tmp 98) (.con (.int .i64 4)), none⟩])
  (.cond (.tmp 99) (.seq (.region [⟨some 100, .mov (.tmp 12), none⟩,
    ⟨some 101, .bin .rem (.tmp 100) (.con (.int .u32 10000)), none⟩,
    ⟨some 13, .mov (.tmp 101), none⟩])
  (.seq (.region [⟨some 102, .mov (.tmp 12), none⟩,
    ⟨some 103, .bin .quo (.tmp 102) (.con (.int .u32 10000)), none⟩,
    ⟨some 12, .mov (.tmp 103), none⟩])
  (.seq (.region [⟨some 104, .mov (.tmp 13), none⟩,
    ⟨some 105, .bin .quo (.tmp 104) (.con (.int .u32 100)), none⟩,
    ⟨some 106, .bin .mul (.tmp 105) (.con (.int .u32 2)), none⟩,
    ⟨some 107, .mov (.tmp 13), none⟩,
    ⟨some 108, .bin .rem (.tmp 107) (.con (.int .u32 100)), none⟩,
    ⟨some 109, .bin .mul (.tmp 108) (.con (.int .u32 2)), none⟩,
    ⟨some 14, .mov (.tmp 106), none⟩,
    ⟨some 15, .mov (.tmp 109), none⟩])
  (.seq (.region [⟨some 110, .mov (.tmp 0), none⟩,
    ⟨some 111, .mov (.tmp 4), none⟩,
    ⟨some 112, .bin .sub (.tmp 111) (.con (.int .i64 1)), none⟩,
    ⟨some 113, .mov (.tmp 0), none⟩,
    ⟨some 114, .mov (.tmp 4), none⟩,
    ⟨some 115, .bin .sub (.tmp 114) (.con (.int .i64 2)), none⟩,
    ⟨some 116, .mov (.tmp 15), none⟩,
    ⟨some 117, .bin .add (.tmp 116) (.con (.int .u32 1)), none⟩,
    ⟨some 118, .idxs (.con (.str ⟨#[48, 48, 48, 49, 48, 50, 48, 51, 48, 52, 48, 53, 48, 54, 48, 55, 48, 56, 48, 57, 49, 48, 49, 49, 49, 50, 49, 51, 49, 52, 49, 53, 49, 54, 49, 55, 49, 56, 49, 57, 50, 48, 50, 49, 50, 50, 50, 51, 50, 52, 50, 53, 50, 54, 50, 55, 50, 56, 50, 57, 51, 48, 51, 49, 51, 50, 51, 51, 51, 52, 51, 53, 51, 54, 51, 55, 51, 56, 51, 57, 52, 48, 52, 49, 52, 50, 52, 51, 52, 52, 52, 53, 52, 54, 52, 55, 52, 56, 52, 57, 53, 48, 53, 49, 53, 50, 53, 51, 53, 52, 53, 53, 53, 54, 53, 55, 53, 56, 53, 57, 54, 48, 54, 49, 54, 50, 54, 51, 54, 52, 54, 53, 54, 54, 54, 55, 54, 56, 54, 57, 55, 48, 55, 49, 55, 50, 55, 51, 55, 52, 55, 53, 55, 54, 55, 55, 55, 56, 55, 57, 56, 48, 56, 49, 56, 50, 56, 51, 56, 52, 56, 53, 56, 54, 56, 55, 56, 56, 56, 57, 57, 48, 57, 49, 57, 50, 57, 51, 57, 52, 57, 53, 57, 54, 57, 55, 57, 56, 57, 57]⟩)) (.tmp 117), none⟩,
    ⟨some 119, .mov (.tmp 15), none⟩,
    ⟨some 120, .idxs (.con (.str ⟨#[48, 48, 48, 49, 48, 50, 48, 51, 48, 52, 48, 53, 48, 54, 48, 55, 48, 56, 48, 57, 49, 48, 49, 49, 49, 50, 49, 51, 49, 52, 49, 53, 49, 54, 49, 55, 49, 56, 49, 57, 50, 48, 50, 49, 50, 50, 50, 51, 50, 52, 50, 53, 50, 54, 50, 55, 50, 56, 50, 57, 51, 48, 51, 49, 51, 50, 51, 51, 51, 52, 51, 53, 51, 54, 51, 55, 51, 56, 51, 57, 52, 48, 52, 49, 52, 50, 52, 51, 52, 52, 52, 53, 52, 54, 52, 55, 52, 56, 52, 57, 53, 48, 53, 49, 53, 50, 53, 51, 53, 52, 53, 53, 53, 54, 53, 55, 53, 56, 53, 57, 54, 48, 54, 49, 54, 50, 54, 51, 54, 52, 54, 53, 54, 54, 54, 55, 54, 56, 54, 57, 55, 48, 55, 49, 55, 50, 55, 51, 55, 52, 55, 53, 55, 54, 55, 55, 55, 56, 55, 57, 56, 48, 56, 49, 56, 50, 56, 51, 56, 52, 56, 53, 56, 54, 56, 55, 56, 56, 56, 57, 57, 48, 57, 49, 57, 50, 57, 51, 57, 52, 57, 53, 57, 54, 57, 55, 57, 56, 57, 57]⟩)) (.tmp 119), none⟩,
    ⟨some 121, .iaddr 1 none (.tmp 110) (.tmp 112), none⟩,
    ⟨none, .store 1 (.tmp 121) (.tmp 118), none⟩,
    ⟨some 122, .iaddr 1 none (.tmp 113) (.tmp 115), none⟩,
    ⟨none, .store 1 (.tmp 122) (.tmp 120), none⟩])
  (.seq (.region [⟨some 123, .mov (.tmp 0), none⟩,
    ⟨some 124, .mov (.tmp 4), none⟩,
    ⟨some 125, .bin .sub (.tmp 124) (.con (.int .i64 3)), none⟩,
    ⟨some 126, .mov (.tmp 0), none⟩,
    ⟨some 127, .mov (.tmp 4), none⟩,
    ⟨some 128, .bin .sub (.tmp 127) (.con (.int .i64 4)), none⟩,
    ⟨some 129, .mov (.tmp 14), none⟩,
    ⟨some 130, .bin .add (.tmp 129) (.con (.int .u32 1)), none⟩,
    ⟨some 131, .idxs (.con (.str ⟨#[48, 48, 48, 49, 48, 50, 48, 51, 48, 52, 48, 53, 48, 54, 48, 55, 48, 56, 48, 57, 49, 48, 49, 49, 49, 50, 49, 51, 49, 52, 49, 53, 49, 54, 49, 55, 49, 56, 49, 57, 50, 48, 50, 49, 50, 50, 50, 51, 50, 52, 50, 53, 50, 54, 50, 55, 50, 56, 50, 57, 51, 48, 51, 49, 51, 50, 51, 51, 51, 52, 51, 53, 51, 54, 51, 55, 51, 56, 51, 57, 52, 48, 52, 49, 52, 50, 52, 51, 52, 52, 52, 53, 52, 54, 52, 55, 52, 56, 52, 57, 53, 48, 53, 49, 53, 50, 53, 51, 53, 52, 53, 53, 53, 54, 53, 55, 53, 56, 53, 57, 54, 48, 54, 49, 54, 50, 54, 51, 54, 52, 54, 53, 54, 54, 54, 55, 54, 56, 54, 57, 55, 48, 55, 49, 55, 50, 55, 51, 55, 52, 55, 53, 55, 54, 55, 55, 55, 56, 55, 57, 56, 48, 56, 49, 56, 50, 56, 51, 56, 52, 56, 53, 56, 54, 56, 55, 56, 56, 56, 57, 57, 48, 57, 49, 57, 50, 57, 51, 57, 52, 57, 53, 57, 54, 57, 55, 57, 56, 57, 57]⟩)) (.tmp 130), none⟩,
    ⟨some 132, .mov (.tmp 14), none⟩,
    ⟨some 133, .idxs (.con (.str ⟨#[48, 48, 48, 49, 48, 50, 48, 51, 48, 52, 48, 53, 48, 54, 48, 55, 48, 56, 48, 57, 49, 48, 49, 49, 49, 50, 49, 51, 49, 52, 49, 53, 49, 54, 49, 55, 49, 56, 49, 57, 50, 48, 50, 49, 50, 50, 50, 51, 50, 52, 50, 53, 50, 54, 50, 55, 50, 56, 50, 57, 51, 48, 51, 49, 51, 50, 51, 51, 51, 52, 51, 53, 51, 54, 51, 55, 51, 56, 51, 57, 52, 48, 52, 49, 52, 50, 52, 51, 52, 52, 52, 53, 52, 54, 52, 55, 52, 56, 52, 57, 53, 48, 53, 49, 53, 50, 53, 51, 53, 52, 53, 53, 53, 54, 53, 55, 53, 56, 53, 57, 54, 48, 54, 49, 54, 50, 54, 51, 54, 52, 54, 53, 54, 54, 54, 55, 54, 56, 54, 57, 55, 48, 55, 49, 55, 50, 55, 51, 55, 52, 55, 53, 55, 54, 55, 55, 55, 56, 55, 57, 56, 48, 56, 49, 56, 50, 56, 51, 56, 52, 56, 53, 56, 54, 56, 55, 56, 56, 56, 57, 57, 48, 57, 49, 57, 50, 57, 51, 57, 52, 57, 53, 57, 54, 57, 55, 57, 56, 57, 57]⟩)) (.tmp 132), none⟩,
    ⟨some 134, .iaddr 1 none (.tmp 123) (.tmp 125), none⟩,
    ⟨none, .store 1 (.tmp 134) (.tmp 131), none⟩,
    ⟨some 135, .iaddr 1 none (.tmp 126) (.tmp 128), none⟩,
    ⟨none, .store 1 (.tmp 135) (.tmp 133), none⟩])
  (.region [⟨some 136, .mov (.tmp 4), none⟩,
    ⟨some 137, .bin .sub (.tmp 136) (.con (.int .i64 4)), none⟩,
    ⟨some 4, .mov (.tmp 137), none⟩])))))) (.skip)))
  (.seq (.seq (.region [⟨some 138, .mov (.tmp 4), none⟩,
    ⟨some 139, .bin .geq (.tmp 138) (.con (.int .i64 2)), none⟩])
  (.cond (.tmp 139) (.seq (.region [⟨some 140, .mov (.tmp 12), none⟩,
    ⟨some 141, .bin .rem (.tmp 140) (.con (.int .u32 100)), none⟩,
    ⟨some 142, .bin .mul (.tmp 141) (.con (.int .u32 2)), none⟩,
    ⟨some 16, .mov (.tmp 142), none⟩])
  (.seq (.region [⟨some 143, .mov (.tmp 12), none⟩,
    ⟨some 144, .bin .quo (.tmp 143) (.con (.int .u32 100)), none⟩,
    ⟨some 12, .mov (.tmp 144), none⟩])
  (.seq (.region [⟨some 145, .mov (.tmp 0), none⟩,
    ⟨some 146, .mov (.tmp 4), none⟩,
    ⟨some 147, .bin .sub (.tmp 146) (.con (.int .i64 1)), none⟩,
    ⟨some 148, .mov (.tmp 0), none⟩,
    ⟨some 149, .mov (.tmp 4), none⟩,
    ⟨some 150, .bin .sub (.tmp 149) (.con (.int .i64 2)), none⟩,
    ⟨some 151, .mov (.tmp 16), none⟩,
    ⟨some 152, .bin .add (.tmp 151) (.con (.int .u32 1)), none⟩,
    ⟨some 153, .idxs (.con (.str ⟨#[48, 48, 48, 49, 48, 50, 48, 51, 48, 52, 48, 53, 48, 54, 48, 55, 48, 56, 48, 57, 49, 48, 49, 49, 49, 50, 49, 51, 49, 52, 49, 53, 49, 54, 49, 55, 49, 56, 49, 57, 50, 48, 50, 49, 50, 50, 50, 51, 50, 52, 50, 53, 50, 54, 50, 55, 50, 56, 50, 57, 51, 48, 51, 49, 51, 50, 51, 51, 51, 52, 51, 53, 51, 54, 51, 55, 51, 56, 51, 57, 52, 48, 52, 49, 52, 50, 52, 51, 52, 52, 52, 53, 52, 54, 52, 55, 52, 56, 52, 57, 53, 48, 53, 49, 53, 50, 53, 51, 53, 52, 53, 53, 53, 54, 53, 55, 53, 56, 53, 57, 54, 48, 54, 49, 54, 50, 54, 51, 54, 52, 54, 53, 54, 54, 54, 55, 54, 56, 54, 57, 55, 48, 55, 49, 55, 50, 55, 51, 55, 52, 55, 53, 55, 54, 55, 55, 55, 56, 55, 57, 56, 48, 56, 49, 56, 50, 56, 51, 56, 52, 56, 53, 56, 54, 56, 55, 56, 56, 56, 57, 57, 48, 57, 49, 57, 50, 57, 51, 57, 52, 57, 53, 57, 54, 57, 55, 57, 56, 57, 57]⟩)) (.tmp 152), none⟩,
    ⟨some 154, .mov (.tmp 16), none⟩,
    ⟨some 155, .idxs (.con (.str ⟨#[48, 48, 48, 49, 48, 50, 48, 51, 48, 52, 48, 53, 48, 54, 48, 55, 48, 56, 48, 57, 49, 48, 49, 49, 49, 50, 49, 51, 49, 52, 49, 53, 49, 54, 49, 55, 49, 56, 49, 57, 50, 48, 50, 49, 50, 50, 50, 51, 50, 52, 50, 53, 50, 54, 50, 55, 50, 56, 50, 57, 51, 48, 51, 49, 51, 50, 51, 51, 51, 52, 51, 53, 51, 54, 51, 55, 51, 56, 51, 57, 52, 48, 52, 49, 52, 50, 52, 51, 52, 52, 52, 53, 52, 54, 52, 55, 52, 56, 52, 57, 53, 48, 53, 49, 53, 50, 53, 51, 53, 52, 53, 53, 53, 54, 53, 55, 53, 56, 53, 57, 54, 48, 54, 49, 54, 50, 54, 51, 54, 52, 54, 53, 54, 54, 54, 55, 54, 56, 54, 57, 55, 48, 55, 49, 55, 50, 55, 51, 55, 52, 55, 53, 55, 54, 55, 55, 55, 56, 55, 57, 56, 48, 56, 49, 56, 50, 56, 51, 56, 52, 56, 53, 56, 54, 56, 55, 56, 56, 56, 57, 57, 48, 57, 49, 57, 50, 57, 51, 57, 52, 57, 53, 57, 54, 57, 55, 57, 56, 57, 57]⟩)) (.tmp 154), none⟩,
    ⟨some 156, .iaddr 1 none (.tmp 145) (.tmp 147), none⟩,
    ⟨none, .store 1 (.tmp 156) (.tmp 153), none⟩,
    ⟨some 157, .iaddr 1 none (.tmp 148) (.tmp 150), none⟩,
    ⟨none, .store 1 (.tmp 157) (.tmp 155), none⟩])
  (.region [⟨some 158, .mov (.tmp 4), none⟩,
    ⟨some 159, .bin .sub (.tmp 158) (.con (.int .i64 2)), none⟩,
    ⟨some 4, .mov (.tmp 159), none⟩])))) (.skip)))
  (.seq (.region [⟨some 160, .mov (.tmp 4), none⟩,
    ⟨some 161, .bin .gtr (.tmp 160) (.con (.int .i64 0)), none⟩])
  (.cond (.tmp 161) (.region [⟨some 162, .take (.tmp 0), none⟩,
    ⟨some 163, .mov (.tmp 12), none⟩,
    ⟨some 164, .bin .add (.con (.int .u32 48)) (.tmp 163), none⟩,
    ⟨some 165, .cInt .u8 (.tmp 164), none⟩,
    ⟨some 166, .iaddr 1 none (.tmp 162) (.con (.int .i64 0)), none⟩,
    ⟨none, .store 1 (.tmp 166) (.tmp 165), none⟩]) (.skip))))))),
  []⟩
theorem is_internal_strconv_formatBase10 : IsFn Tryd.prog 100 c_internal_strconv_formatBase10 := isFn_of [([], []), ([5, 6, 7, 8, 9, 10, 11, 17, 18, 19, 20, 21, 22, 23, 24, 25, 26, 27, 28, 29, 30, 31, 32, 33, 34, 35, 36, 37, 38, 39, 40, 41, 42, 43, 44, 45, 46, 47, 48, 49, 50, 51, 52, 53, 54, 55, 56, 57, 58, 59, 60, 61, 62, 63, 64, 65, 66, 67, 68, 69, 70, 71, 72, 73, 74, 75, 76, 77, 78, 79, 80, 81, 82, 83, 84, 85, 86, 87, 88, 89, 90, 91, 92, 93, 94, 95], []), ([], []), ([19, 20], []), ([], []), ([], []), ([], []), ([], []), ([], []), ([], []), ([], []), ([], []), ([], []), ([], []), ([], []), ([], []), ([], []), ([], []), ([], []), ([], []), ([], []), ([], []), ([], []), ([], []), ([], []), ([], []), ([], []), ([], []), ([], [0])] (by kernel_rfl)

/-- strings.Cut -/
def c_strings_Cut : CFn := ⟨13, .seq (.region [⟨some 4, .mov (.con (.str ⟨#[]⟩)), none⟩,
    ⟨some 5, .mov (.con (.str ⟨#[]⟩)), none⟩,
    ⟨some 6, .mov (.con (.bool false)), none⟩])
  (.seq (.region [⟨some 7, .mov (.tmp 0), none⟩,
    ⟨some 8, .mov (.tmp 1), none⟩,
    ⟨some 9, .pcall 116 [(.tmp 7), (.tmp 8)], none⟩,
    ⟨some 10, .extract 9 0, none⟩,
    ⟨some 11, .extract 9 1, none⟩,
    ⟨some 12, .extract 9 2, none⟩,
    ⟨some 4, .mov (.tmp 10), none⟩,
    ⟨some 5, .mov (.tmp 11), none⟩,
    ⟨some 6, .mov (.tmp 12), none⟩])
  (.ret)),
  [.tmp 4, .tmp 5, .tmp 6]⟩
theorem is_strings_Cut : IsFn Tryd.prog 102 c_strings_Cut := isFn_of [([], []), ([], [2]), ([], [])] (by kernel_rfl)

/-- regency/cats.number -/
def c_cats_number : CFn := ⟨31, .seq (.region [⟨some 4, .mov (.con (.int .i64 0)), none⟩,
    ⟨some 5, .mov (.con (.bool false)), none⟩])
  (.seq (.region [⟨some 9, .mov (.tmp 0), none⟩,
    ⟨some 10, .call 38 [(.tmp 9)], none⟩,
    ⟨some 8, .mov (.tmp 10), none⟩,
    ⟨some 11, .extract 8 0, none⟩,
    ⟨some 12, .extract 8 1, none⟩,
    ⟨some 6, .mov (.tmp 11), none⟩,
    ⟨some 7, .mov (.tmp 12), none⟩])
  (.seq (.region [⟨some 13, .mov (.tmp 6), none⟩,
    ⟨some 14, .mov (.tmp 7), none⟩,
    ⟨some 15, .isnil .ifc false (.tmp 14), none⟩,
    ⟨some 16, .mov (.tmp 15), none⟩,
    ⟨some 17, .mov (.tmp 6), (some (16, true))⟩,
    ⟨some 18, .bin .geq (.tmp 17) (.con (.int .i64 0)), (some (16, true))⟩,
    ⟨some 19, .pick (.tmp 16) (.tmp 18) (.con (.bool false)), none⟩,
    ⟨some 20, .mov (.tmp 19), none⟩,
    ⟨some 21, .mov (.tmp 6), (some (20, true))⟩,
    ⟨some 22, .mov (.tmp 1), (some (20, true))⟩,
    ⟨some 23, .bin .leq (.tmp 21) (.tmp 22), (some (20, true))⟩,
    ⟨some 24, .pick (.tmp 20) (.tmp 23) (.con (.bool false)), none⟩,
    ⟨some 25, .mov (.tmp 24), none⟩,
    ⟨some 26, .mov (.tmp 6), (some (25, true))⟩,
    ⟨some 27, .pcall 44 [(.tmp 26)], (some (25, true))⟩,
    ⟨some 28, .mov (.tmp 0), (some (25, true))⟩,
    ⟨some 29, .bin .eql (.tmp 27) (.tmp 28), (some (25, true))⟩,
    ⟨some 30, .pick (.tmp 25) (.tmp 29) (.con (.bool false)), none⟩,
    ⟨some 4, .mov (.tmp 13), none⟩,
    ⟨some 5, .mov (.tmp 30), none⟩])
  (.ret))),
  [.tmp 4, .tmp 5]⟩
theorem is_cats_number : IsFn Tryd.prog 103 c_cats_number := isFn_of [([], []), ([], []), ([], [14]), ([], [])] (by kernel_rfl)

/-- regency/cats.Compare -/
def c_cats_Compare : CFn := ⟨47, .seq (.region [⟨some 4, .mov (.con (.int .i64 0)), none⟩])
  (.seq (.region [⟨some 12, .mov (.tmp 0), none⟩,
    ⟨some 13, .pcall 91 [(.tmp 12)], none⟩,
    ⟨some 11, .take (.tmp 13), none⟩,
    ⟨some 14, .extract 11 0, none⟩,
    ⟨some 15, .extract 11 1, none⟩,
    ⟨some 16, .extract 11 2, none⟩,
    ⟨some 5, .take (.tmp 14), none⟩,
    ⟨some 6, .mov (.tmp 15), none⟩,
    ⟨some 7, .mov (.tmp 16), none⟩])
  (.seq (.region [⟨some 18, .mov (.tmp 1), none⟩,
    ⟨some 19, .pcall 91 [(.tmp 18)], none⟩,
    ⟨some 17, .take (.tmp 19), none⟩,
    ⟨some 20, .extract 17 0, none⟩,
    ⟨some 21, .extract 17 1, none⟩,
    ⟨some 22, .extract 17 2, none⟩,
    ⟨some 8, .take (.tmp 20), none⟩,
    ⟨some 9, .mov (.tmp 21), none⟩,
    ⟨some 10, .mov (.tmp 22), none⟩])
  (.seq (.block 0 (.seq (.region [⟨some 24, .mov (.tmp 7), none⟩,
    ⟨some 25, .un .not (.tmp 24), none⟩,
    ⟨some 26, .mov (.tmp 25), none⟩,
    ⟨some 27, .mov (.tmp 10), (some (26, true))⟩,
    ⟨some 28, .un .not (.tmp 27), (some (26, true))⟩,
    ⟨some 29, .pick (.tmp 26) (.tmp 28) (.con (.bool false)), none⟩,
    ⟨some 23, .mov (.tmp 29), none⟩])
  (.cond (.tmp 23) (.seq (.region [⟨some 30, .mov (.tmp 0), none⟩,
    ⟨some 31, .mov (.tmp 1), none⟩,
    ⟨some 32, .pcall 117 [(.tmp 30), (.tmp 31)], none⟩,
    ⟨some 4, .mov (.tmp 32), none⟩])
  (.ret)) (.seq (.region [⟨some 34, .mov (.tmp 7), none⟩,
    ⟨some 35, .un .not (.tmp 34), none⟩,
    ⟨some 33, .mov (.tmp 35), none⟩])
  (.cond (.tmp 33) (.seq (.region [⟨some 4, .mov (.con (.int .i64 1)), none⟩])
  (.ret)) (.seq (.region [⟨some 37, .mov (.tmp 10), none⟩,
    ⟨some 38, .un .not (.tmp 37), none⟩,
    ⟨some 36, .mov (.tmp 38), none⟩])
  (.cond (.tmp 36) (.seq (.region [⟨some 4, .mov (.con (.int .i64 (-1))), none⟩])
  (.ret)) (.skip))))))))
  (.seq (.region [⟨some 39, .take (.tmp 5), none⟩,
    ⟨some 40, .take (.tmp 8), none⟩,
    ⟨some 41, .pcall 52 [(.tmp 39), (.tmp 40)], none⟩,
    ⟨some 42, .mov (.tmp 6), none⟩,
    ⟨some 43, .mov (.tmp 9), none⟩,
    ⟨some 44, .pcall 70 [(.tmp 42), (.tmp 43)], none⟩,
    ⟨some 45, .bslice 1 false [(.tmp 41), (.tmp 44)], none⟩,
    ⟨some 46, .pcall 118 [(.tmp 45)], none⟩,
    ⟨some 4, .mov (.tmp 46), none⟩])
  (.ret))))),
  [.tmp 4]⟩
theorem is_cats_Compare : IsFn Tryd.prog 104 c_cats_Compare := isFn_of [([], []), ([], [1, 2, 6]), ([], [1, 2, 6]), ([], []), ([], [2]), ([], []), ([], []), ([], []), ([], []), ([], []), ([], []), ([], []), ([], [0, 1, 2, 5, 7]), ([], [])] (by kernel_rfl)

/-- internal/stringslite.IndexByte -/
def c_internal_stringslite_IndexByte : CFn := ⟨8, .seq (.region [⟨some 4, .mov (.con (.int .i64 0)), none⟩])
  (.seq (.region [⟨some 5, .mov (.tmp 0), none⟩,
    ⟨some 6, .mov (.tmp 1), none⟩,
    ⟨some 7, .call 119 [(.tmp 5), (.tmp 6)], none⟩,
    ⟨some 4, .mov (.tmp 7), none⟩])
  (.ret)),
  [.tmp 4]⟩
theorem is_internal_stringslite_IndexByte : IsFn Tryd.prog 105 c_internal_stringslite_IndexByte := isFn_of [([], []), ([], []), ([], [])] (by kernel_rfl)

/-- internal/bytealg.Cutover -/
def c_internal_bytealg_Cutover : CFn := ⟨6, .seq (.region [⟨some 2, .mov (.con (.int .i64 0)), none⟩])
  (.seq (.region [⟨some 3, .mov (.tmp 0), none⟩,
    ⟨some 4, .bin .add (.tmp 3) (.con (.int .i64 16)), none⟩,
    ⟨some 5, .bin .quo (.tmp 4) (.con (.int .i64 8)), none⟩,
    ⟨some 2, .mov (.tmp 5), none⟩])
  (.ret)),
  [.tmp 2]⟩
theorem is_internal_bytealg_Cutover : IsFn Tryd.prog 107 c_internal_bytealg_Cutover := isFn_of [([], []), ([], []), ([], [])] (by kernel_rfl)

abbrev s_internal_bytealg_IndexRabinKarp_string_0 (v0 v1 v5 v6 v7 v8 v9 : AV) : List AV := [v0, v1, undefA, undefA, .any, v5, v6, v7, v8, v9, undefA, .any, .any, .any, .any, .any, .any, .any, .any, .any, .any, .any, .any, .any, .any, .any, .any, .any, .any, .any, undefA, undefA, undefA, undefA, undefA, undefA, undefA, undefA, undefA, undefA, undefA, undefA, undefA, undefA, undefA, undefA, undefA, undefA, undefA, undefA, undefA, undefA, undefA, undefA, undefA, undefA, undefA, undefA, undefA, undefA, undefA, undefA, undefA, undefA, undefA, undefA, undefA, undefA, undefA, undefA, undefA, undefA, undefA, undefA, undefA, undefA, undefA, undefA, undefA, undefA, undefA]
abbrev s_internal_bytealg_IndexRabinKarp_string_1 (v0 v1 v5 v6 v7 v8 v10 : AV) : List AV := [v0, v1, undefA, undefA, .any, v5, v6, v7, v8, .any, v10, .any, .any, .any, .any, .any, .any, .any, .any, .any, .any, .any, .any, .any, .any, .any, .any, .any, .any, .any, .any, .any, .any, .any, .any, .any, .any, .any, .any, .any, .any, .any, .any, .any, .any, .any, .any, .any, .any, .any, .any, .any, .any, .any, .any, .any, .any, .any, .any, .any, .any, .any, .any, .any, .any, .any, .any, .any, .any, .any, .any, .any, .any, .any, .any, .any, .any, .any, .any, .any, .any]
abbrev x_internal_bytealg_IndexRabinKarp_string_0 (v0 v1 v5 v6 v7 v8 : AV) : List AV := [v0, v1, undefA, undefA, .any, v5, v6, v7, v8, .any, undefA, .any, .any, .any, .any, .any, .any, .any, .any, .any, .any, .any, .any, .any, .any, .any, .any, .any, .any, .any, undefA, undefA, undefA, undefA, undefA, undefA, undefA, undefA, undefA, undefA, undefA, undefA, undefA, undefA, undefA, undefA, undefA, undefA, undefA, undefA, undefA, undefA, undefA, undefA, undefA, undefA, undefA, undefA, undefA, undefA, undefA, undefA, undefA, undefA, undefA, undefA, undefA, undefA, undefA, undefA, undefA, undefA, undefA, undefA, undefA, undefA, undefA, undefA, undefA, undefA, undefA]
abbrev x_internal_bytealg_IndexRabinKarp_string_2  : List AV := [.any, .any, undefA, undefA, .any, .any, .any, .any, .any, .any, .any, .any, .any, .any, .any, .any, .any, .any, .any, .any, .any, .any, .any, .any, .any, .any, .any, .any, .any, .any, .any, .any, .any, .any, .any, .any, .any, .any, .any, .any, .any, .any, .any, .any, .any, .any, .any, .any, .any, .any, .any, .any, .any, .any, .any, .any, .any, .any, .any, .any, .any, .any, .any, .any, .any, .any, .any, .any, .any, .any, .any, .any, .any, .any, .any, .any, .any, .any, .any, .any, .any]
abbrev l_internal_bytealg_IndexRabinKarp_string_1 : CC := .kill [4, 30, 31, 32, 33, 34, 35, 36, 37, 38, 39, 40, 41, 42, 43, 44, 45, 46, 47, 48, 49, 50, 51, 52, 53, 54, 55, 56, 57, 58, 59, 60, 61, 62, 63, 64, 65, 66, 67, 68, 69, 70, 71, 72, 73, 74, 75, 76, 77, 78, 79, 80] (.seq (.seq (.region [⟨some 41, .mov (.tmp 10), none⟩,
    ⟨some 42, .mov (.tmp 0), none⟩,
    ⟨some 43, .lens (.tmp 42), none⟩,
    ⟨some 44, .bin .lss (.tmp 41) (.tmp 43), none⟩])
  (.cond (.tmp 44) (.skip) (.kill [0, 1, 5, 6, 7, 8, 10, 41, 42, 43, 44] (.exit 2))))
  (.block 3 (.seq (.region [⟨some 45, .mov (.tmp 8), none⟩,
    ⟨some 46, .bin .mul (.tmp 45) (.con (.int .u32 16777619)), none⟩,
    ⟨some 8, .mov (.tmp 46), none⟩])
  (.seq (.region [⟨some 47, .mov (.tmp 8), none⟩,
    ⟨some 48, .mov (.tmp 0), none⟩,
    ⟨some 49, .mov (.tmp 10), none⟩,
    ⟨some 50, .idxs (.tmp 48) (.tmp 49), none⟩,
    ⟨some 51, .cInt .u32 (.tmp 50), none⟩,
    ⟨some 52, .bin .add (.tmp 47) (.tmp 51), none⟩,
    ⟨some 8, .mov (.tmp 52), none⟩])
  (.seq (.region [⟨some 53, .mov (.tmp 8), none⟩,
    ⟨some 54, .mov (.tmp 6), none⟩,
    ⟨some 55, .mov (.tmp 0), none⟩,
    ⟨some 56, .mov (.tmp 10), none⟩,
    ⟨some 57, .mov (.tmp 7), none⟩,
    ⟨some 58, .bin .sub (.tmp 56) (.tmp 57), none⟩,
    ⟨some 59, .idxs (.tmp 55) (.tmp 58), none⟩,
    ⟨some 60, .cInt .u32 (.tmp 59), none⟩,
    ⟨some 61, .bin .mul (.tmp 54) (.tmp 60), none⟩,
    ⟨some 62, .bin .sub (.tmp 53) (.tmp 61), none⟩,
    ⟨some 8, .mov (.tmp 62), none⟩])
  (.seq (.region [⟨some 63, .mov (.tmp 10), none⟩,
    ⟨some 64, .bin .add (.tmp 63) (.con (.int .i64 1)), none⟩,
    ⟨some 10, .mov (.tmp 64), none⟩])
  (.seq (.region [⟨some 65, .mov (.tmp 8), none⟩,
    ⟨some 66, .mov (.tmp 5), none⟩,
    ⟨some 67, .bin .eql (.tmp 65) (.tmp 66), none⟩,
    ⟨some 68, .mov (.tmp 67), none⟩,
    ⟨some 69, .mov (.tmp 0), (some (68, true))⟩,
    ⟨some 70, .mov (.tmp 10), (some (68, true))⟩,
    ⟨some 71, .mov (.tmp 7), (some (68, true))⟩,
    ⟨some 72, .bin .sub (.tmp 70) (.tmp 71), (some (68, true))⟩,
    ⟨some 73, .mov (.tmp 10), (some (68, true))⟩,
    ⟨some 74, .slice none (.tmp 69) (some (.tmp 72)) (some (.tmp 73)) none, (some (68, true))⟩,
    ⟨some 75, .mov (.tmp 1), (some (68, true))⟩,
    ⟨some 76, .bin .eql (.tmp 74) (.tmp 75), (some (68, true))⟩,
    ⟨some 77, .pick (.tmp 68) (.tmp 76) (.con (.bool false)), none⟩])
  (.cond (.tmp 77) (.seq (.region [⟨some 78, .mov (.tmp 10), none⟩,
    ⟨some 79, .mov (.tmp 7), none⟩,
    ⟨some 80, .bin .sub (.tmp 78) (.tmp 79), none⟩,
    ⟨some 4, .mov (.tmp 80), none⟩])
  (.ret)) (.skip)))))))))
abbrev l_internal_bytealg_IndexRabinKarp_string_0 : CC := .kill [4, 11, 12, 13, 14, 15, 16, 17, 18, 19, 20, 21, 22, 23, 24, 25, 26, 27, 28, 29] (.seq (.seq (.region [⟨some 18, .mov (.tmp 9), none⟩,
    ⟨some 19, .mov (.tmp 7), none⟩,
    ⟨some 20, .bin .lss (.tmp 18) (.tmp 19), none⟩])
  (.cond (.tmp 20) (.skip) (.kill [9, 18, 19, 20] (.exit 0))))
  (.seq (.block 1 (.region [⟨some 23, .mov (.tmp 8), none⟩,
    ⟨some 24, .bin .mul (.tmp 23) (.con (.int .u32 16777619)), none⟩,
    ⟨some 25, .mov (.tmp 0), none⟩,
    ⟨some 26, .mov (.tmp 9), none⟩,
    ⟨some 27, .idxs (.tmp 25) (.tmp 26), none⟩,
    ⟨some 28, .cInt .u32 (.tmp 27), none⟩,
    ⟨some 29, .bin .add (.tmp 24) (.tmp 28), none⟩,
    ⟨some 8, .mov (.tmp 29), none⟩]))
  (.region [⟨some 21, .mov (.tmp 9), none⟩,
    ⟨some 22, .bin .add (.tmp 21) (.con (.int .i64 1)), none⟩,
    ⟨some 9, .mov (.tmp 22), none⟩])))
/-- internal/bytealg.IndexRabinKarp[string] -/
def c_internal_bytealg_IndexRabinKarp_string : CFn := ⟨81, .seq (.region [⟨some 4, .mov (.con (.int .i64 0)), none⟩])
  (.seq (.region [⟨some 12, .mov (.tmp 1), none⟩,
    ⟨some 13, .pcall 120 [(.tmp 12)], none⟩,
    ⟨some 11, .mov (.tmp 13), none⟩,
    ⟨some 14, .extract 11 0, none⟩,
    ⟨some 15, .extract 11 1, none⟩,
    ⟨some 5, .mov (.tmp 14), none⟩,
    ⟨some 6, .mov (.tmp 15), none⟩])
  (.seq (.region [⟨some 16, .mov (.tmp 1), none⟩,
    ⟨some 17, .lens (.tmp 16), none⟩,
    ⟨some 7, .mov (.tmp 17), none⟩])
  (.seq (.region [⟨some 8, .mov (.con (.int .u32 0)), none⟩])
  (.seq (.seq (.region [⟨some 9, .mov (.con (.int .i64 0)), none⟩])
  (.block 0 (.kill [4, 11, 12, 13, 14, 15, 16, 17, 18, 19, 20, 21, 22, 23, 24, 25, 26, 27, 28, 29] (.loop l_internal_bytealg_IndexRabinKarp_string_0))))
  (.seq (.seq (.region [⟨some 30, .mov (.tmp 8), none⟩,
    ⟨some 31, .mov (.tmp 5), none⟩,
    ⟨some 32, .bin .eql (.tmp 30) (.tmp 31), none⟩,
    ⟨some 33, .mov (.tmp 32), none⟩,
    ⟨some 34, .mov (.tmp 0), (some (33, true))⟩,
    ⟨some 35, .mov (.tmp 7), (some (33, true))⟩,
    ⟨some 36, .slice none (.tmp 34) none (some (.tmp 35)) none, (some (33, true))⟩,
    ⟨some 37, .mov (.tmp 1), (some (33, true))⟩,
    ⟨some 38, .bin .eql (.tmp 36) (.tmp 37), (some (33, true))⟩,
    ⟨some 39, .pick (.tmp 33) (.tmp 38) (.con (.bool false)), none⟩])
  (.cond (.tmp 39) (.seq (.region [⟨some 4, .mov (.con (.int .i64 0)), none⟩])
  (.ret)) (.skip)))
  (.seq (.seq (.region [⟨some 40, .mov (.tmp 7), none⟩,
    ⟨some 10, .mov (.tmp 40), none⟩])
  (.block 2 (.kill [4, 30, 31, 32, 33, 34, 35, 36, 37, 38, 39, 40, 41, 42, 43, 44, 45, 46, 47, 48, 49, 50, 51, 52, 53, 54, 55, 56, 57, 58, 59, 60, 61, 62, 63, 64, 65, 66, 67, 68, 69, 70, 71, 72, 73, 74, 75, 76, 77, 78, 79, 80] (.loop l_internal_bytealg_IndexRabinKarp_string_1))))
  (.seq (.region [⟨some 4, .mov (.con (.int .i64 (-1))), none⟩])
  (.ret)))))))),
  [.tmp 4]⟩
theorem is_internal_bytealg_IndexRabinKarp_string : IsFn Tryd.prog 108 c_internal_bytealg_IndexRabinKarp_string := isFn_of [([], []), ([], [1]), ([], []), ([], []), ([], []), ([4, 11, 12, 13, 14, 15, 16, 17, 18, 19, 20, 21, 22, 23, 24, 25, 26, 27, 28, 29], []), ([], []), ([9, 18, 19, 20], []), ([], []), ([], []), ([], []), ([], []), ([], []), ([], []), ([4, 30, 31, 32, 33, 34, 35, 36, 37, 38, 39, 40, 41, 42, 43, 44, 45, 46, 47, 48, 49, 50, 51, 52, 53, 54, 55, 56, 57, 58, 59, 60, 61, 62, 63, 64, 65, 66, 67, 68, 69, 70, 71, 72, 73, 74, 75, 76, 77, 78, 79, 80], []), ([], []), ([0, 1, 5, 6, 7, 8, 10, 41, 42, 43, 44], []), ([], []), ([], []), ([], []), ([], []), ([], []), ([], []), ([], []), ([], []), ([], [])] (by kernel_rfl)

/-- internal/strconv.lower -/
def c_internal_strconv_lower : CFn := ⟨5, .seq (.region [⟨some 2, .mov (.con (.int .u8 0)), none⟩])
  (.seq (.region [⟨some 3, .mov (.tmp 0), none⟩,
    ⟨some 4, .bin .or (.tmp 3) (.con (.int .u8 32)), none⟩,
    ⟨some 2, .mov (.tmp 4), none⟩])
  (.ret)),
  [.tmp 2]⟩
theorem is_internal_strconv_lower : IsFn Tryd.prog 109 c_internal_strconv_lower := isFn_of [([], []), ([], []), ([], [])] (by kernel_rfl)

abbrev s_internal_strconv_underscoreOK_0 (v0 v3 v4 v5 : AV) : List AV := [v0, undefA, .any, v3, v4, v5, .any, .any, .any, .any, .any, .any, .any, .any, .any, .any, .any, .any, .any, .any, .any, .any, .any, .any, .any, .any, .any, .any, .any, .any, .any, .any, .any, .any, .any, .any, .any, .any, .any, .any, .any, .any, .any, .any, .any, .any, .any, .any, .any, .any, .any, .any, .any, .any, .any, .any, .any, .any, .any, .any, .any, .any, .any, .any, .any, .any, .any, .any, .any, .any, .any, .any, .any, .any, .any, .any, .any, .any, .any, .any, .any, .any, .any, .any, .any, .any, .any, .any, .any, .any, .any, .any, undefA, undefA]
abbrev x_internal_strconv_underscoreOK_0 (v3 : AV) : List AV := [.any, undefA, .any, v3, .any, .any, .any, .any, .any, .any, .any, .any, .any, .any, .any, .any, .any, .any, .any, .any, .any, .any, .any, .any, .any, .any, .any, .any, .any, .any, .any, .any, .any, .any, .any, .any, .any, .any, .any, .any, .any, .any, .any, .any, .any, .any, .any, .any, .any, .any, .any, .any, .any, .any, .any, .any, .any, .any, .any, .any, .any, .any, .any, .any, .any, .any, .any, .any, .any, .any, .any, .any, .any, .any, .any, .any, .any, .any, .any, .any, .any, .any, .any, .any, .any, .any, .any, .any, .any, .any, .any, .any, undefA, undefA]
abbrev x_internal_strconv_underscoreOK_1 (v0 v3 v4 v5 : AV) : List AV := [v0, undefA, .any, v3, v4, v5, .any, .any, .any, .any, .any, .any, .any, .any, .any, .any, .any, .any, .any, .any, .any, .any, .any, .any, .any, .any, .any, .any, .any, .any, .any, .any, .any, .any, .any, .any, .any, .any, .any, .any, .any, .any, .any, .any, .any, .any, .any, .any, .any, .any, .any, .any, .any, .any, .any, .any, .any, .any, .any, .any, .any, .any, .any, .any, .any, .any, .any, .any, .any, .any, .any, .any, .any, .any, .any, .any, .any, .any, .any, .any, .any, .any, .any, .any, .any, .any, .any, .any, .any, .any, .any, .any, undefA, undefA]
abbrev l_internal_strconv_underscoreOK_0 : CC := .kill [2, 6, 7, 8, 9, 10, 11, 12, 13, 14, 15, 16, 17, 18, 19, 20, 21, 22, 23, 24, 25, 26, 27, 28, 29, 30, 31, 32, 33, 34, 35, 36, 37, 38, 39, 40, 41, 42, 43, 44, 45, 46, 47, 48, 49, 50, 51, 52, 53, 54, 55, 56, 57, 58, 59, 60, 61, 62, 63, 64, 65, 66, 67, 68, 69, 70, 71, 72, 73, 74, 75, 76, 77, 78, 79, 80, 81, 82, 83, 84, 85, 86, 87, 88, 89, 90, 91] (.seq (.seq (.region [⟨some 51, .mov (.tmp 4), none⟩,
    ⟨some 52, .mov (.tmp 0), none⟩,
    ⟨some 53, .lens (.tmp 52), none⟩,
    ⟨some 54, .bin .lss (.tmp 51) (.tmp 53), none⟩])
  (.cond (.tmp 54) (.skip) (.kill [0, 4, 5, 51, 52, 53, 54] (.exit 0))))
  (.seq (.block 1 (.seq (.seq (.region [⟨some 57, .mov (.tmp 0), none⟩,
    ⟨some 58, .mov (.tmp 4), none⟩,
    ⟨some 59, .idxs (.tmp 57) (.tmp 58), none⟩,
    ⟨some 60, .bin .leq (.con (.int .u8 48)) (.tmp 59), none⟩,
    ⟨some 61, .mov (.tmp 60), none⟩,
    ⟨some 62, .mov (.tmp 0), (some (61, true))⟩,
    ⟨some 63, .mov (.tmp 4), (some (61, true))⟩,
    ⟨some 64, .idxs (.tmp 62) (.tmp 63), (some (61, true))⟩,
    ⟨some 65, .bin .leq (.tmp 64) (.con (.int .u8 57)), (some (61, true))⟩,
    ⟨some 66, .pick (.tmp 61) (.tmp 65) (.con (.bool false)), none⟩,
    ⟨some 67, .mov (.tmp 66), none⟩,
    ⟨some 68, .mov (.tmp 5), (some (67, false))⟩,
    ⟨some 69, .mov (.tmp 68), (some (67, false))⟩,
    ⟨some 70, .mov (.tmp 0), (some (69, true))⟩,
    ⟨some 71, .mov (.tmp 4), (some (69, true))⟩,
    ⟨some 72, .idxs (.tmp 70) (.tmp 71), (some (69, true))⟩,
    ⟨some 73, .pcall 109 [(.tmp 72)], (some (69, true))⟩,
    ⟨some 74, .bin .leq (.con (.int .u8 97)) (.tmp 73), (some (69, true))⟩,
    ⟨some 75, .pick (.tmp 69) (.tmp 74) (.con (.bool false)), (some (67, false))⟩,
    ⟨some 76, .mov (.tmp 75), (some (67, false))⟩,
    ⟨some 77, .mov (.tmp 0), (some (76, true))⟩,
    ⟨some 78, .mov (.tmp 4), (some (76, true))⟩,
    ⟨some 79, .idxs (.tmp 77) (.tmp 78), (some (76, true))⟩,
    ⟨some 80, .pcall 109 [(.tmp 79)], (some (76, true))⟩,
    ⟨some 81, .bin .leq (.tmp 80) (.con (.int .u8 102)), (some (76, true))⟩,
    ⟨some 82, .pick (.tmp 76) (.tmp 81) (.con (.bool false)), (some (67, false))⟩,
    ⟨some 83, .pick (.tmp 67) (.con (.bool true)) (.tmp 82), none⟩])
  (.cond (.tmp 83) (.seq (.region [⟨some 3, .mov (.con (.int .i32 48)), none⟩])
  (.kill [51, 52, 53, 54, 57, 58, 59, 60, 61, 62, 63, 64, 65, 66, 67, 68, 69, 70, 71, 72, 73, 74, 75, 76, 77, 78, 79, 80, 81, 82, 83] (.exit 1))) (.skip)))
  (.seq (.seq (.region [⟨some 84, .mov (.tmp 0), none⟩,
    ⟨some 85, .mov (.tmp 4), none⟩,
    ⟨some 86, .idxs (.tmp 84) (.tmp 85), none⟩,
    ⟨some 87, .bin .eql (.tmp 86) (.con (.int .u8 95)), none⟩])
  (.cond (.tmp 87) (.seq (.seq (.region [⟨some 88, .mov (.tmp 3), none⟩,
    ⟨some 89, .bin .neq (.tmp 88) (.con (.int .i32 48)), none⟩])
  (.cond (.tmp 89) (.seq (.region [⟨some 2, .mov (.con (.bool false)), none⟩])
  (.ret)) (.skip)))
  (.seq (.region [⟨some 3, .mov (.con (.int .i32 95)), none⟩])
  (.kill [51, 52, 53, 54, 57, 58, 59, 60, 61, 62, 63, 64, 65, 66, 67, 68, 69, 70, 71, 72, 73, 74, 75, 76, 77, 78, 79, 80, 81, 82, 83, 84, 85, 86, 87, 88, 89] (.exit 1)))) (.skip)))
  (.seq (.seq (.region [⟨some 90, .mov (.tmp 3), none⟩,
    ⟨some 91, .bin .eql (.tmp 90) (.con (.int .i32 95)), none⟩])
  (.cond (.tmp 91) (.seq (.region [⟨some 2, .mov (.con (.bool false)), none⟩])
  (.ret)) (.skip)))
  (.region [⟨some 3, .mov (.con (.int .i32 33)), none⟩])))))
  (.kill [51, 52, 53, 54, 57, 58, 59, 60, 61, 62, 63, 64, 65, 66, 67, 68, 69, 70, 71, 72, 73, 74, 75, 76, 77, 78, 79, 80, 81, 82, 83, 84, 85, 86, 87, 90, 91] (.region [⟨some 55, .mov (.tmp 4), none⟩,
    ⟨some 56, .bin .add (.tmp 55) (.con (.int .i64 1)), none⟩,
    ⟨some 4, .mov (.tmp 56), none⟩]))))
/-- internal/strconv.underscoreOK -/
def c_internal_strconv_underscoreOK : CFn := ⟨94, .seq (.region [⟨some 2, .mov (.con (.bool false)), none⟩])
  (.seq (.region [⟨some 3, .mov (.con (.int .i32 94)), none⟩])
  (.seq (.region [⟨some 4, .mov (.con (.int .i64 0)), none⟩])
  (.seq (.seq (.region [⟨some 6, .mov (.tmp 0), none⟩,
    ⟨some 7, .lens (.tmp 6), none⟩,
    ⟨some 8, .bin .geq (.tmp 7) (.con (.int .i64 1)), none⟩,
    ⟨some 9, .mov (.tmp 8), none⟩,
    ⟨some 10, .mov (.tmp 0), (some (9, true))⟩,
    ⟨some 11, .idxs (.tmp 10) (.con (.int .i64 0)), (some (9, true))⟩,
    ⟨some 12, .bin .eql (.tmp 11) (.con (.int .u8 45)), (some (9, true))⟩,
    ⟨some 13, .mov (.tmp 12), (some (9, true))⟩,
    ⟨some 14, .mov (.tmp 0), (some (13, false))⟩,
    ⟨some 15, .idxs (.tmp 14) (.con (.int .i64 0)), (some (13, false))⟩,
    ⟨some 16, .bin .eql (.tmp 15) (.con (.int .u8 43)), (some (13, false))⟩,
    ⟨some 17, .pick (.tmp 13) (.con (.bool true)) (.tmp 16), (some (9, true))⟩,
    ⟨some 18, .pick (.tmp 9) (.tmp 17) (.con (.bool false)), none⟩])
  (.cond (.tmp 18) (.region [⟨some 19, .mov (.tmp 0), none⟩,
    ⟨some 20, .slice none (.tmp 19) (some (.con (.int .i64 1))) none none, none⟩,
    ⟨some 0, .mov (.tmp 20), none⟩]) (.skip)))
  (.seq (.region [⟨some 5, .mov (.con (.bool false)), none⟩])
  (.seq (.seq (.region [⟨some 21, .mov (.tmp 0), none⟩,
    ⟨some 22, .lens (.tmp 21), none⟩,
    ⟨some 23, .bin .geq (.tmp 22) (.con (.int .i64 2)), none⟩,
    ⟨some 24, .mov (.tmp 23), none⟩,
    ⟨some 25, .mov (.tmp 0), (some (24, true))⟩,
    ⟨some 26, .idxs (.tmp 25) (.con (.int .i64 0)), (some (24, true))⟩,
    ⟨some 27, .bin .eql (.tmp 26) (.con (.int .u8 48)), (some (24, true))⟩,
    ⟨some 28, .pick (.tmp 24) (.tmp 27) (.con (.bool false)), none⟩,
    ⟨some 29, .mov (.tmp 28), none⟩,
    ⟨some 30, .mov (.tmp 0), (some (29, true))⟩,
    ⟨some 31, .idxs (.tmp 30) (.con (.int .i64 1)), (some (29, true))⟩,
    ⟨some 32, .pcall 109 [(.tmp 31)], (some (29, true))⟩,
    ⟨some 33, .bin .eql (.tmp 32) (.con (.int .u8 98)), (some (29, true))⟩,
    ⟨some 34, .mov (.tmp 33), (some (29, true))⟩,
    ⟨some 35, .mov (.tmp 0), (some (34, false))⟩,
    ⟨some 36, .idxs (.tmp 35) (.con (.int .i64 1)), (some (34, false))⟩,
    ⟨some 37, .pcall 109 [(.tmp 36)], (some (34, false))⟩,
    ⟨some 38, .bin .eql (.tmp 37) (.con (.int .u8 111)), (some (34, false))⟩,
    ⟨some 39, .pick (.tmp 34) (.con (.bool true)) (.tmp 38), (some (29, true))⟩,
    ⟨some 40, .mov (.tmp 39), (some (29, true))⟩,
    ⟨some 41, .mov (.tmp 0), (some (40, false))⟩,
    ⟨some 42, .idxs (.tmp 41) (.con (.int .i64 1)), (some (40, false))⟩,
    ⟨some 43, .pcall 109 [(.tmp 42)], (some (40, false))⟩,
    ⟨some 44, .bin .eql (.tmp 43) (.con (.int .u8 120)), (some (40, false))⟩,
    ⟨some 45, .pick (.tmp 40) (.con (.bool true)) (.tmp 44), (some (29, true))⟩,
    ⟨some 46, .pick (.tmp 29) (.tmp 45) (.con (.bool false)), none⟩])
  (.cond (.tmp 46) (.seq (.region [⟨some 4, .mov (.con (.int .i64 2)), none⟩])
  (.seq (.region [⟨some 3, .mov (.con (.int .i32 48)), none⟩])
  (.region [⟨some 47, .mov (.tmp 0), none⟩,
    ⟨some 48, .idxs (.tmp 47) (.con (.int .i64 1)), none⟩,
    ⟨some 49, .pcall 109 [(.tmp 48)], none⟩,
    ⟨some 50, .bin .eql (.tmp 49) (.con (.int .u8 120)), none⟩,
    ⟨some 5, .mov (.tmp 50), none⟩]))) (.skip)))
  (.seq (.block 0 (.kill [2, 6, 7, 8, 9, 10, 11, 12, 13, 14, 15, 16, 17, 18, 19, 20, 21, 22, 23, 24, 25, 26, 27, 28, 29, 30, 31, 32, 33, 34, 35, 36, 37, 38, 39, 40, 41, 42, 43, 44, 45, 46, 47, 48, 49, 50, 51, 52, 53, 54, 55, 56, 57, 58, 59, 60, 61, 62, 63, 64, 65, 66, 67, 68, 69, 70, 71, 72, 73, 74, 75, 76, 77, 78, 79, 80, 81, 82, 83, 84, 85, 86, 87, 88, 89, 90, 91] (.loop l_internal_strconv_underscoreOK_0)))
  (.seq (.region [⟨some 92, .mov (.tmp 3), none⟩,
    ⟨some 93, .bin .neq (.tmp 92) (.con (.int .i32 95)), none⟩,
    ⟨some 2, .mov (.tmp 93), none⟩])
  (.ret)))))))),
  [.tmp 2]⟩
theorem is_internal_strconv_underscoreOK : IsFn Tryd.prog 110 c_internal_strconv_underscoreOK := isFn_of [([], []), ([], []), ([], []), ([], []), ([], []), ([], []), ([], [11, 16, 22]), ([], []), ([], []), ([], [2]), ([2, 6, 7, 8, 9, 10, 11, 12, 13, 14, 15, 16, 17, 18, 19, 20, 21, 22, 23, 24, 25, 26, 27, 28, 29, 30, 31, 32, 33, 34, 35, 36, 37, 38, 39, 40, 41, 42, 43, 44, 45, 46, 47, 48, 49, 50, 51, 52, 53, 54, 55, 56, 57, 58, 59, 60, 61, 62, 63, 64, 65, 66, 67, 68, 69, 70, 71, 72, 73, 74, 75, 76, 77, 78, 79, 80, 81, 82, 83, 84, 85, 86, 87, 88, 89, 90, 91], []), ([], []), ([0, 4, 5, 51, 52, 53, 54], []), ([], [16, 23]), ([], []), ([51, 52, 53, 54, 57, 58, 59, 60, 61, 62, 63, 64, 65, 66, 67, 68, 69, 70, 71, 72, 73, 74, 75, 76, 77, 78, 79, 80, 81, 82, 83], []), ([], []), ([], []), ([], []), ([], []), ([], []), ([51, 52, 53, 54, 57, 58, 59, 60, 61, 62, 63, 64, 65, 66, 67, 68, 69, 70, 71, 72, 73, 74, 75, 76, 77, 78, 79, 80, 81, 82, 83, 84, 85, 86, 87, 88, 89], []), ([], []), ([], []), ([], []), ([], []), ([51, 52, 53, 54, 57, 58, 59, 60, 61, 62, 63, 64, 65, 66, 67, 68, 69, 70, 71, 72, 73, 74, 75, 76, 77, 78, 79, 80, 81, 82, 83, 84, 85, 86, 87, 90, 91], []), ([], []), ([], [])] (by kernel_rfl)

/-- internal/strconv.log10Pow2 -/
def c_internal_strconv_log10Pow2 : CFn := ⟨6, .seq (.region [⟨some 2, .mov (.con (.int .i64 0)), none⟩])
  (.seq (.region [⟨some 3, .mov (.tmp 0), none⟩,
    ⟨some 4, .bin .mul (.tmp 3) (.con (.int .i64 78913)), none⟩,
    ⟨some 5, .bin .shr (.tmp 4) (.con (.int .u64 18)), none⟩,
    ⟨some 2, .mov (.tmp 5), none⟩])
  (.ret)),
  [.tmp 2]⟩
theorem is_internal_strconv_log10Pow2 : IsFn Tryd.prog 111 c_internal_strconv_log10Pow2 := isFn_of [([], []), ([], []), ([], [])] (by kernel_rfl)

/-- math/bits.Len64 -/
def c_math_bits_Len64 : CFn := ⟨25, .seq (.region [⟨some 2, .mov (.con (.int .i64 0)), none⟩])
  (.seq (.seq (.region [⟨some 3, .mov (.tmp 0), none⟩,
    ⟨some 4, .bin .geq (.tmp 3) (.con (.int .u64 4294967296)), none⟩])
  (.cond (.tmp 4) (.seq (.region [⟨some 5, .mov (.tmp 0), none⟩,
    ⟨some 6, .bin .shr (.tmp 5) (.con (.int .u64 32)), none⟩,
    ⟨some 0, .mov (.tmp 6), none⟩])
  (.region [⟨some 2, .mov (.con (.int .i64 32)), none⟩])) (.skip)))
  (.seq (.seq (.region [⟨some 7, .mov (.tmp 0), none⟩,
    ⟨some 8, .bin .geq (.tmp 7) (.con (.int .u64 65536)), none⟩])
  (.cond (.tmp 8) (.seq (.region [⟨some 9, .mov (.tmp 0), none⟩,
    ⟨some 10, .bin .shr (.tmp 9) (.con (.int .u64 16)), none⟩,
    ⟨some 0, .mov (.tmp 10), none⟩])
  (.region [⟨some 11, .mov (.tmp 2), none⟩,
    ⟨some 12, .bin .add (.tmp 11) (.con (.int .i64 16)), none⟩,
    ⟨some 2, .mov (.tmp 12), none⟩])) (.skip)))
  (.seq (.seq (.region [⟨some 13, .mov (.tmp 0), none⟩,
    ⟨some 14, .bin .geq (.tmp 13) (.con (.int .u64 256)), none⟩])
  (.cond (.tmp 14) (.seq (.region [⟨some 15, .mov (.tmp 0), none⟩,
    ⟨some 16, .bin .shr (.tmp 15) (.con (.int .u64 8)), none⟩,
    ⟨some 0, .mov (.tmp 16), none⟩])
  (.region [⟨some 17, .mov (.tmp 2), none⟩,
    ⟨some 18, .bin .add (.tmp 17) (.con (.int .i64 8)), none⟩,
    ⟨some 2, .mov (.tmp 18), none⟩])) (.skip)))
  (.seq (.region [⟨some 19, .mov (.tmp 2), none⟩,
    ⟨some 20, .mov (.tmp 0), none⟩,
    ⟨some 21, .cInt .u8 (.tmp 20), none⟩,
    ⟨some 22, .idxs (.con (.str ⟨#[0, 1, 2, 2, 3, 3, 3, 3, 4, 4, 4, 4, 4, 4, 4, 4, 5, 5, 5, 5, 5, 5, 5, 5, 5, 5, 5, 5, 5, 5, 5, 5, 6, 6, 6, 6, 6, 6, 6, 6, 6, 6, 6, 6, 6, 6, 6, 6, 6, 6, 6, 6, 6, 6, 6, 6, 6, 6, 6, 6, 6, 6, 6, 6, 7, 7, 7, 7, 7, 7, 7, 7, 7, 7, 7, 7, 7, 7, 7, 7, 7, 7, 7, 7, 7, 7, 7, 7, 7, 7, 7, 7, 7, 7, 7, 7, 7, 7, 7, 7, 7, 7, 7, 7, 7, 7, 7, 7, 7, 7, 7, 7, 7, 7, 7, 7, 7, 7, 7, 7, 7, 7, 7, 7, 7, 7, 7, 7, 8, 8, 8, 8, 8, 8, 8, 8, 8, 8, 8, 8, 8, 8, 8, 8, 8, 8, 8, 8, 8, 8, 8, 8, 8, 8, 8, 8, 8, 8, 8, 8, 8, 8, 8, 8, 8, 8, 8, 8, 8, 8, 8, 8, 8, 8, 8, 8, 8, 8, 8, 8, 8, 8, 8, 8, 8, 8, 8, 8, 8, 8, 8, 8, 8, 8, 8, 8, 8, 8, 8, 8, 8, 8, 8, 8, 8, 8, 8, 8, 8, 8, 8, 8, 8, 8, 8, 8, 8, 8, 8, 8, 8, 8, 8, 8, 8, 8, 8, 8, 8, 8, 8, 8, 8, 8, 8, 8, 8, 8, 8, 8, 8, 8, 8, 8, 8, 8, 8, 8, 8, 8, 8, 8, 8, 8, 8, 8]⟩)) (.tmp 21), none⟩,
    ⟨some 23, .cInt .i64 (.tmp 22), none⟩,
    ⟨some 24, .bin .add (.tmp 19) (.tmp 23), none⟩,
    ⟨some 2, .mov (.tmp 24), none⟩])
  (.ret))))),
  [.tmp 2]⟩
theorem is_math_bits_Len64 : IsFn Tryd.prog 112 c_math_bits_Len64 := isFn_of [([], []), ([], []), ([], []), ([], []), ([], []), ([], []), ([], []), ([], []), ([], []), ([], []), ([], []), ([], [])] (by kernel_rfl)

/-- internal/strconv.bool2[int] -/
def c_internal_strconv_bool2_int : CFn := ⟨4, .seq (.region [⟨some 2, .mov (.con (.int .i64 0)), none⟩])
  (.seq (.seq (.region [⟨some 3, .mov (.tmp 0), none⟩])
  (.cond (.tmp 3) (.seq (.region [⟨some 2, .mov (.con (.int .i64 1)), none⟩])
  (.ret)) (.skip)))
  (.seq (.region [⟨some 2, .mov (.con (.int .i64 0)), none⟩])
  (.ret))),
  [.tmp 2]⟩
theorem is_internal_strconv_bool2_int : IsFn Tryd.prog 113 c_internal_strconv_bool2_int := isFn_of [([], []), ([], []), ([], []), ([], []), ([], []), ([], [])] (by kernel_rfl)

/-- internal/strconv.isPowerOfTwo -/
def c_internal_strconv_isPowerOfTwo : CFn := ⟨8, .seq (.region [⟨some 2, .mov (.con (.bool false)), none⟩])
  (.seq (.region [⟨some 3, .mov (.tmp 0), none⟩,
    ⟨some 4, .mov (.tmp 0), none⟩,
    ⟨some 5, .bin .sub (.tmp 4) (.con (.int .i64 1)), none⟩,
    ⟨some 6, .bin .and (.tmp 3) (.tmp 5), none⟩,
    ⟨some 7, .bin .eql (.tmp 6) (.con (.int .i64 0)), none⟩,
    ⟨some 2, .mov (.tmp 7), none⟩])
  (.ret)),
  [.tmp 2]⟩
theorem is_internal_strconv_isPowerOfTwo : IsFn Tryd.prog 114 c_internal_strconv_isPowerOfTwo := isFn_of [([], []), ([], []), ([], [])] (by kernel_rfl)

/-- math/bits.TrailingZeros -/
def c_math_bits_TrailingZeros : CFn := ⟨8, .seq (.region [⟨some 2, .mov (.con (.int .i64 0)), none⟩])
  (.seq (.cond (.con (.bool false)) (.seq (.region [⟨some 3, .mov (.tmp 0), none⟩,
    ⟨some 4, .cInt .u32 (.tmp 3), none⟩,
    ⟨some 5, .pcall 121 [(.tmp 4)], none⟩,
    ⟨some 2, .mov (.tmp 5), none⟩])
  (.ret)) (.skip))
  (.seq (.region [⟨some 6, .mov (.tmp 0), none⟩,
    ⟨some 7, .pcall 122 [(.tmp 6)], none⟩,
    ⟨some 2, .mov (.tmp 7), none⟩])
  (.ret))),
  [.tmp 2]⟩
theorem is_math_bits_TrailingZeros : IsFn Tryd.prog 115 c_math_bits_TrailingZeros := isFn_of [([], []), ([], [2]), ([], []), ([], [1]), ([], [])] (by kernel_rfl)

/-- internal/stringslite.Cut -/
def c_internal_stringslite_Cut : CFn := ⟨23, .seq (.region [⟨some 4, .mov (.con (.str ⟨#[]⟩)), none⟩,
    ⟨some 5, .mov (.con (.str ⟨#[]⟩)), none⟩,
    ⟨some 6, .mov (.con (.bool false)), none⟩])
  (.seq (.seq (.region [⟨some 8, .mov (.tmp 0), none⟩,
    ⟨some 9, .mov (.tmp 1), none⟩,
    ⟨some 10, .pcall 94 [(.tmp 8), (.tmp 9)], none⟩,
    ⟨some 7, .mov (.tmp 10), none⟩])
  (.seq (.region [⟨some 11, .mov (.tmp 7), none⟩,
    ⟨some 12, .bin .geq (.tmp 11) (.con (.int .i64 0)), none⟩])
  (.cond (.tmp 12) (.seq (.region [⟨some 13, .mov (.tmp 0), none⟩,
    ⟨some 14, .mov (.tmp 7), none⟩,
    ⟨some 15, .slice none (.tmp 13) none (some (.tmp 14)) none, none⟩,
    ⟨some 16, .mov (.tmp 0), none⟩,
    ⟨some 17, .mov (.tmp 7), none⟩,
    ⟨some 18, .mov (.tmp 1), none⟩,
    ⟨some 19, .lens (.tmp 18), none⟩,
    ⟨some 20, .bin .add (.tmp 17) (.tmp 19), none⟩,
    ⟨some 21, .slice none (.tmp 16) (some (.tmp 20)) none none, none⟩,
    ⟨some 4, .mov (.tmp 15), none⟩,
    ⟨some 5, .mov (.tmp 21), none⟩,
    ⟨some 6, .mov (.con (.bool true)), none⟩])
  (.ret)) (.skip))))
  (.seq (.region [⟨some 22, .mov (.tmp 0), none⟩,
    ⟨some 4, .mov (.tmp 22), none⟩,
    ⟨some 5, .mov (.con (.str ⟨#[]⟩)), none⟩,
    ⟨some 6, .mov (.con (.bool false)), none⟩])
  (.ret))),
  [.tmp 4, .tmp 5, .tmp 6]⟩
theorem is_internal_stringslite_Cut : IsFn Tryd.prog 116 c_internal_stringslite_Cut := isFn_of [([], []), ([], [2]), ([], []), ([], []), ([], []), ([], []), ([], [])] (by kernel_rfl)

/-- cmp.Compare[string] -/
def c_cmp_Compare_string : CFn := ⟨20, .seq (.region [⟨some 4, .mov (.con (.int .i64 0)), none⟩])
  (.seq (.region [⟨some 7, .mov (.tmp 0), none⟩,
    ⟨some 8, .pcall 123 [(.tmp 7)], none⟩,
    ⟨some 5, .mov (.tmp 8), none⟩])
  (.seq (.region [⟨some 9, .mov (.tmp 1), none⟩,
    ⟨some 10, .pcall 123 [(.tmp 9)], none⟩,
    ⟨some 6, .mov (.tmp 10), none⟩])
  (.seq (.seq (.region [⟨some 11, .mov (.tmp 5), none⟩])
  (.cond (.tmp 11) (.seq (.seq (.region [⟨some 12, .mov (.tmp 6), none⟩])
  (.cond (.tmp 12) (.seq (.region [⟨some 4, .mov (.con (.int .i64 0)), none⟩])
  (.ret)) (.skip)))
  (.seq (.region [⟨some 4, .mov (.con (.int .i64 (-1))), none⟩])
  (.ret))) (.skip)))
  (.seq (.seq (.region [⟨some 13, .mov (.tmp 6), none⟩])
  (.cond (.tmp 13) (.seq (.region [⟨some 4, .mov (.con (.int .i64 1)), none⟩])
  (.ret)) (.skip)))
  (.seq (.seq (.region [⟨some 14, .mov (.tmp 0), none⟩,
    ⟨some 15, .mov (.tmp 1), none⟩,
    ⟨some 16, .bin .lss (.tmp 14) (.tmp 15), none⟩])
  (.cond (.tmp 16) (.seq (.region [⟨some 4, .mov (.con (.int .i64 (-1))), none⟩])
  (.ret)) (.skip)))
  (.seq (.seq (.region [⟨some 17, .mov (.tmp 0), none⟩,
    ⟨some 18, .mov (.tmp 1), none⟩,
    ⟨some 19, .bin .gtr (.tmp 17) (.tmp 18), none⟩])
  (.cond (.tmp 19) (.seq (.region [⟨some 4, .mov (.con (.int .i64 1)), none⟩])
  (.ret)) (.skip)))
  (.seq (.region [⟨some 4, .mov (.con (.int .i64 0)), none⟩])
  (.ret)))))))),
  [.tmp 4]⟩
theorem is_cmp_Compare_string : IsFn Tryd.prog 117 c_cmp_Compare_string := isFn_of [([], []), ([], [1]), ([], [1]), ([], []), ([], []), ([], []), ([], []), ([], []), ([], []), ([], []), ([], []), ([], []), ([], []), ([], []), ([], []), ([], []), ([], []), ([], []), ([], []), ([], [])] (by kernel_rfl)

abbrev s_cmp_Or_int_0 (v3 v6 v7 v8 : AV) : List AV := [.any, undefA, .any, v3, undefA, .any, v6, v7, v8, .any, .any, .any, .any, .any, .any, .any, .any, undefA]
abbrev x_cmp_Or_int_0 (v3 : AV) : List AV := [.any, undefA, .any, v3, undefA, .any, .any, .any, .any, .any, .any, .any, .any, .any, .any, .any, .any, undefA]
abbrev l_cmp_Or_int_0 : CC := .kill [0, 2, 5, 9, 10, 11, 12, 13, 14, 15, 16] (.seq (.region [⟨some 9, .bin .lss (.tmp 8) (.tmp 7), none⟩])
  (.seq (.cond (.tmp 9) (.skip) (.kill [6, 7, 8, 9] (.exit 0)))
  (.seq (.block 1 (.seq (.region [⟨some 10, .iaddr 1 none (.tmp 6) (.tmp 8), none⟩,
    ⟨some 11, .load none (.tmp 10), none⟩,
    ⟨some 5, .mov (.tmp 11), none⟩])
  (.seq (.region [⟨some 12, .mov (.tmp 5), none⟩,
    ⟨some 13, .mov (.tmp 3), none⟩,
    ⟨some 14, .bin .neq (.tmp 12) (.tmp 13), none⟩])
  (.cond (.tmp 14) (.seq (.region [⟨some 15, .mov (.tmp 5), none⟩,
    ⟨some 2, .mov (.tmp 15), none⟩])
  (.ret)) (.skip)))))
  (.region [⟨some 16, .bin .add (.tmp 8) (.con (.int .i64 1)), none⟩,
    ⟨some 8, .mov (.tmp 16), none⟩]))))
/-- cmp.Or[int] -/
def c_cmp_Or_int : CFn := ⟨18, .seq (.region [⟨some 2, .mov (.con (.int .i64 0)), none⟩])
  (.seq (.region [⟨some 3, .mov (.con (.int .i64 0)), none⟩])
  (.seq (.seq (.region [⟨some 6, .take (.tmp 0), none⟩,
    ⟨some 7, .lenl (.tmp 6), none⟩,
    ⟨some 8, .mov (.con (.int .i64 0)), none⟩])
  (.block 0 (.kill [0, 2, 5, 9, 10, 11, 12, 13, 14, 15, 16] (.loop l_cmp_Or_int_0))))
  (.seq (.region [⟨some 17, .mov (.tmp 3), none⟩,
    ⟨some 2, .mov (.tmp 17), none⟩])
  (.ret)))),
  [.tmp 2]⟩
theorem is_cmp_Or_int : IsFn Tryd.prog 118 c_cmp_Or_int := isFn_of [([], []), ([], []), ([], [0]), ([0, 2, 5, 9, 10, 11, 12, 13, 14, 15, 16], []), ([], []), ([6, 7, 8, 9], []), ([], []), ([], []), ([], []), ([], []), ([], []), ([], []), ([], [])] (by kernel_rfl)

abbrev s_internal_bytealg_hashStr_string_0 (v0 v4 v5 : AV) : List AV := [v0, undefA, .any, .any, v4, v5, undefA, undefA, undefA, .any, .any, .any, .any, .any, .any, .any, .any, .any, .any, .any, .any, .any, undefA, undefA, undefA, undefA, undefA, undefA, undefA, undefA, undefA, undefA, undefA, undefA, undefA, undefA, undefA, undefA, undefA]
abbrev s_internal_bytealg_hashStr_string_1 (v4 v6 v7 v8 : AV) : List AV := [.any, undefA, .any, .any, v4, .any, v6, v7, v8, .any, .any, .any, .any, .any, .any, .any, .any, .any, .any, .any, .any, .any, .any, .any, .any, .any, .any, .any, .any, .any, .any, .any, .any, .any, .any, .any, .any, undefA, undefA]
abbrev x_internal_bytealg_hashStr_string_0 (v0 v4 : AV) : List AV := [v0, undefA, .any, .any, v4, .any, undefA, undefA, undefA, .any, .any, .any, .any, .any, .any, .any, .any, .any, .any, .any, .any, .any, undefA, undefA, undefA, undefA, undefA, undefA, undefA, undefA, undefA, undefA, undefA, undefA, undefA, undefA, undefA, undefA, undefA]
abbrev x_internal_bytealg_hashStr_string_2 (v4 v6 : AV) : List AV := [.any, undefA, .any, .any, v4, .any, v6, .any, .any, .any, .any, .any, .any, .any, .any, .any, .any, .any, .any, .any, .any, .any, .any, .any, .any, .any, .any, .any, .any, .any, .any, .any, .any, .any, .any, .any, .any, undefA, undefA]
abbrev l_internal_bytealg_hashStr_string_1 : CC := .kill [0, 22, 23, 24, 25, 26, 27, 28, 29, 30, 31, 32, 33, 34, 35, 36] (.seq (.seq (.region [⟨some 24, .mov (.tmp 8), none⟩,
    ⟨some 25, .bin .gtr (.tmp 24) (.con (.int .i64 0)), none⟩])
  (.cond (.tmp 25) (.skip) (.kill [7, 8, 24, 25] (.exit 2))))
  (.seq (.block 3 (.seq (.seq (.region [⟨some 28, .mov (.tmp 8), none⟩,
    ⟨some 29, .bin .and (.tmp 28) (.con (.int .i64 1)), none⟩,
    ⟨some 30, .bin .neq (.tmp 29) (.con (.int .i64 0)), none⟩])
  (.cond (.tmp 30) (.region [⟨some 31, .mov (.tmp 6), none⟩,
    ⟨some 32, .mov (.tmp 7), none⟩,
    ⟨some 33, .bin .mul (.tmp 31) (.tmp 32), none⟩,
    ⟨some 6, .mov (.tmp 33), none⟩]) (.skip)))
  (.region [⟨some 34, .mov (.tmp 7), none⟩,
    ⟨some 35, .mov (.tmp 7), none⟩,
    ⟨some 36, .bin .mul (.tmp 34) (.tmp 35), none⟩,
    ⟨some 7, .mov (.tmp 36), none⟩])))
  (.region [⟨some 26, .mov (.tmp 8), none⟩,
    ⟨some 27, .bin .shr (.tmp 26) (.con (.int .u64 1)), none⟩,
    ⟨some 8, .mov (.tmp 27), none⟩])))
abbrev l_internal_bytealg_hashStr_string_0 : CC := .kill [2, 3, 9, 10, 11, 12, 13, 14, 15, 16, 17, 18, 19, 20, 21] (.seq (.seq (.region [⟨some 9, .mov (.tmp 5), none⟩,
    ⟨some 10, .mov (.tmp 0), none⟩,
    ⟨some 11, .lens (.tmp 10), none⟩,
    ⟨some 12, .bin .lss (.tmp 9) (.tmp 11), none⟩])
  (.cond (.tmp 12) (.skip) (.kill [5, 9, 10, 11, 12] (.exit 0))))
  (.seq (.block 1 (.region [⟨some 15, .mov (.tmp 4), none⟩,
    ⟨some 16, .bin .mul (.tmp 15) (.con (.int .u32 16777619)), none⟩,
    ⟨some 17, .mov (.tmp 0), none⟩,
    ⟨some 18, .mov (.tmp 5), none⟩,
    ⟨some 19, .idxs (.tmp 17) (.tmp 18), none⟩,
    ⟨some 20, .cInt .u32 (.tmp 19), none⟩,
    ⟨some 21, .bin .add (.tmp 16) (.tmp 20), none⟩,
    ⟨some 4, .mov (.tmp 21), none⟩]))
  (.region [⟨some 13, .mov (.tmp 5), none⟩,
    ⟨some 14, .bin .add (.tmp 13) (.con (.int .i64 1)), none⟩,
    ⟨some 5, .mov (.tmp 14), none⟩])))
/-- internal/bytealg.hashStr[string] -/
def c_internal_bytealg_hashStr_string : CFn := ⟨39, .seq (.region [⟨some 2, .mov (.con (.int .u32 0)), none⟩,
    ⟨some 3, .mov (.con (.int .u32 0)), none⟩])
  (.seq (.region [⟨some 4, .mov (.con (.int .u32 0)), none⟩])
  (.seq (.seq (.region [⟨some 5, .mov (.con (.int .i64 0)), none⟩])
  (.block 0 (.kill [2, 3, 9, 10, 11, 12, 13, 14, 15, 16, 17, 18, 19, 20, 21] (.loop l_internal_bytealg_hashStr_string_0))))
  (.seq (.region [⟨some 6, .mov (.con (.int .u32 1)), none⟩,
    ⟨some 7, .mov (.con (.int .u32 16777619)), none⟩])
  (.seq (.seq (.region [⟨some 22, .mov (.tmp 0), none⟩,
    ⟨some 23, .lens (.tmp 22), none⟩,
    ⟨some 8, .mov (.tmp 23), none⟩])
  (.block 2 (.kill [0, 22, 23, 24, 25, 26, 27, 28, 29, 30, 31, 32, 33, 34, 35, 36] (.loop l_internal_bytealg_hashStr_string_1))))
  (.seq (.region [⟨some 37, .mov (.tmp 4), none⟩,
    ⟨some 38, .mov (.tmp 6), none⟩,
    ⟨some 2, .mov (.tmp 37), none⟩,
    ⟨some 3, .mov (.tmp 38), none⟩])
  (.ret)))))),
  [.tmp 2, .tmp 3]⟩
theorem is_internal_bytealg_hashStr_string : IsFn Tryd.prog 120 c_internal_bytealg_hashStr_string := isFn_of [([], []), ([], []), ([], []), ([2, 3, 9, 10, 11, 12, 13, 14, 15, 16, 17, 18, 19, 20, 21], []), ([], []), ([5, 9, 10, 11, 12], []), ([], []), ([], []), ([], []), ([], []), ([0, 22, 23, 24, 25, 26, 27, 28, 29, 30, 31, 32, 33, 34, 35, 36], []), ([], []), ([7, 8, 24, 25], []), ([], []), ([], []), ([], []), ([], []), ([], []), ([], [])] (by kernel_rfl)

/-- cmp.isNaN[string] -/
def c_cmp_isNaN_string : CFn := ⟨6, .seq (.region [⟨some 2, .mov (.con (.bool false)), none⟩])
  (.seq (.region [⟨some 3, .mov (.tmp 0), none⟩,
    ⟨some 4, .mov (.tmp 0), none⟩,
    ⟨some 5, .bin .neq (.tmp 3) (.tmp 4), none⟩,
    ⟨some 2, .mov (.tmp 5), none⟩])
  (.ret)),
  [.tmp 2]⟩
theorem is_cmp_isNaN_string : IsFn Tryd.prog 123 c_cmp_isNaN_string := isFn_of [([], []), ([], []), ([], [])] (by kernel_rfl)

end Go.Proofs.YtjeigcnaalleiaaDoor.F
