/- Functions of the program, compiled, by a program (gen.py). -/
import Derived.Test.YtjeigcnaalleiaaGreatDoorProg
import Derived.KernelRfl
import Derived.Test.YtjeigcnaalleiaaGreatDoorM19
import Derived.Test.YtjeigcnaalleiaaGreatDoorF1
set_option maxRecDepth 100000
namespace Go.Proofs.YtjeigcnaalleiaaGreatDoor.F
open Go.Proofs.YtjeigcnaalleiaaGreatDoor.M Go.Proofs Go.RowKit

/-- internal/stringslite.IndexByte -/
def c_internal_stringslite_IndexByte : CFn := ⟨8, .seq (.region [⟨some 4, .mov (.con (.int .i64 0)), none⟩])
  (.seq (.region [⟨some 5, .mov (.tmp 0), none⟩,
    ⟨some 6, .mov (.tmp 1), none⟩,
    ⟨some 7, .call 143 [(.tmp 5), (.tmp 6)], none⟩,
    ⟨some 4, .mov (.tmp 7), none⟩])
  (.ret)),
  [.tmp 4]⟩
theorem is_internal_stringslite_IndexByte : IsFn Tryz.prog 131 c_internal_stringslite_IndexByte := isFn_of [([], []), ([], []), ([], [])] (by kernel_rfl)

/-- internal/bytealg.Cutover -/
def c_internal_bytealg_Cutover : CFn := ⟨6, .seq (.region [⟨some 2, .mov (.con (.int .i64 0)), none⟩])
  (.seq (.region [⟨some 3, .mov (.tmp 0), none⟩,
    ⟨some 4, .bin .add (.tmp 3) (.con (.int .i64 16)), none⟩,
    ⟨some 5, .bin .quo (.tmp 4) (.con (.int .i64 8)), none⟩,
    ⟨some 2, .mov (.tmp 5), none⟩])
  (.ret)),
  [.tmp 2]⟩
theorem is_internal_bytealg_Cutover : IsFn Tryz.prog 133 c_internal_bytealg_Cutover := isFn_of [([], []), ([], []), ([], [])] (by kernel_rfl)

abbrev s_internal_bytealg_IndexRabinKarp_string_0 (v0 v1 v5 v6 v7 v8 v9 : AV) : List AV := [v0, v1, undefA, undefA, .any, v5, v6, v7, v8, v9, undefA, .any, .any, .any, .any, .any, .any, .any, .any, .any, .any, .any, .any, .any, .any, .any, .any, .any, .any, .any, undefA, undefA, undefA, undefA, undefA, undefA, undefA, undefA, undefA, undefA, undefA, undefA, undefA, undefA, undefA, undefA, undefA, undefA, undefA, undefA, undefA, undefA, undefA, undefA, undefA, undefA, undefA, undefA, undefA, undefA, undefA, undefA, undefA, undefA, undefA, undefA, undefA, undefA, undefA, undefA, undefA, undefA, undefA, undefA, undefA, undefA, undefA, undefA, undefA, undefA, undefA]
abbrev s_internal_bytealg_IndexRabinKarp_string_1 (v0 v1 v5 v6 v7 v8 v10 : AV) : List AV := [v0, v1, undefA, undefA, .any, v5, v6, v7, v8, .any, v10, .any, .any, .any, .any, .any, .any, .any, .any, .any, .any, .any, .any, .any, .any, .any, .any, .any, .any, .any, .any, .any, .any, .any, .any, .any, .any, .any, .any, .any, .any, .any, .any, .any, .any, .any, .any, .any, .any, .any, .any, .any, .any, .any, .any, .any, .any, .any, .any, .any, .any, .any, .any, .any, .any, .any, .any, .any, .any, .any, .any, .any, .any, .any, .any, .any, .any, .any, .any, .any, .any]
abbrev x_internal_bytealg_IndexRabinKarp_string_0 (v0 v1 v5 v6 v7 v8 : AV) : List AV := [v0, v1, undefA, undefA, .any, v5, v6, v7, v8, .any, undefA, .any, .any, .any, .any, .any, .any, .any, .any, .any, .any, .any, .any, .any, .any, .any, .any, .any, .any, .any, undefA, undefA, undefA, undefA, undefA, undefA, undefA, undefA, undefA, undefA, undefA, undefA, undefA, undefA, undefA, undefA, undefA, undefA, undefA, undefA, undefA, undefA, undefA, undefA, undefA, undefA, undefA, undefA, undefA, undefA, undefA, undefA, undefA, undefA, undefA, undefA, undefA, undefA, undefA, undefA, undefA, undefA, undefA, undefA, undefA, undefA, undefA, undefA, undefA, undefA, undefA]
abbrev x_internal_bytealg_IndexRabinKarp_string_2  : List AV := [.any, .any, undefA, undefA, .any, .any, .any, .any, .any, .any, .any, .any, .any, .any, .any, .any, .any, .any, .any, .any, .any, .any, .any, .any, .any, .any, .any, .any, .any, .any, .any, .any, .any, .any, .any, .any, .any, .any, .any, .any, .any, .any, .any, .any, .any, .any, .any, .any, .any, .any, .any, .any, .any, .any, .any, .any, .any, .any, .any, .any, .any, .any, .any, .any, .any, .any, .any, .any, .any, .any, .any, .any, .any, .any, .any, .any, .any, .any, .any, .any, .any]
abbrev l_internal_bytealg_IndexRabinKarp_string_1 : CC := .kill [4, 30, 31, 32, 33, 34, 35, 36, 37, 38, 39, 40, 41, 42, 43, 44, 45, 46, 47, 48, 49, 50, 51, 52, 53, 54, 55, 56, 57, 58, 59, 60, 61, 62, 63, 64, 65, 66, 67, 68, 69, 70, 71, 72, 73, 74, 75, 76, 77, 78, 79, 80] (.seq (.seq (.region [⟨some 41, .mov (.tmp 10), none⟩,
    ⟨some 42, .mov (.tmp 0), none⟩,
    ⟨some 43, .lens (.tmp 42), none⟩,
    ⟨some 44, .bin .lss (.tmp 41) (.tmp 43), none⟩])
  (.cond (.tmp 44) (.skip) (.kill [0, 1, 5, 6, 7, 8, 10, 41, 42, 43, 44] (.exit 2))))
  (.block 3 (.seq (.region [⟨some 45, .mov (.tmp 8), none⟩,
    ⟨some 46, .bin .mul (.tmp 45) (.con (.int .u32 16777619)), none⟩,
    ⟨some 8, .mov (.tmp 46), none⟩])
  (.seq (.region [⟨some 47, .mov (.tmp 8), none⟩,
    ⟨some 48, .mov (.tmp 0), none⟩,
    ⟨some 49, .mov (.tmp 10), none⟩,
    ⟨some 50, .idxs (.tmp 48) (.tmp 49), none⟩,
    ⟨some 51, .cInt .u32 (.tmp 50), none⟩,
    ⟨some 52, .bin .add (.tmp 47) (.tmp 51), none⟩,
    ⟨some 8, .mov (.tmp 52), none⟩])
  (.seq (.region [⟨some 53, .mov (.tmp 8), none⟩,
    ⟨some 54, .mov (.tmp 6), none⟩,
    ⟨some 55, .mov (.tmp 0), none⟩,
    ⟨some 56, .mov (.tmp 10), none⟩,
    ⟨some 57, .mov (.tmp 7), none⟩,
    ⟨some 58, .bin .sub (.tmp 56) (.tmp 57), none⟩,
    ⟨some 59, .idxs (.tmp 55) (.tmp 58), none⟩,
    ⟨some 60, .cInt .u32 (.tmp 59), none⟩,
    ⟨some 61, .bin .mul (.tmp 54) (.tmp 60), none⟩,
    ⟨some 62, .bin .sub (.tmp 53) (.tmp 61), none⟩,
    ⟨some 8, .mov (.tmp 62), none⟩])
  (.seq (.region [⟨some 63, .mov (.tmp 10), none⟩,
    ⟨some 64, .bin .add (.tmp 63) (.con (.int .i64 1)), none⟩,
    ⟨some 10, .mov (.tmp 64), none⟩])
  (.seq (.region [⟨some 65, .mov (.tmp 8), none⟩,
    ⟨some 66, .mov (.tmp 5), none⟩,
    ⟨some 67, .bin .eql (.tmp 65) (.tmp 66), none⟩,
    ⟨some 68, .mov (.tmp 67), none⟩,
    ⟨some 69, .mov (.tmp 0), (some (68, true))⟩,
    ⟨some 70, .mov (.tmp 10), (some (68, true))⟩,
    ⟨some 71, .mov (.tmp 7), (some (68, true))⟩,
    ⟨some 72, .bin .sub (.tmp 70) (.tmp 71), (some (68, true))⟩,
    ⟨some 73, .mov (.tmp 10), (some (68, true))⟩,
    ⟨some 74, .slice none (.tmp 69) (some (.tmp 72)) (some (.tmp 73)) none, (some (68, true))⟩,
    ⟨some 75, .mov (.tmp 1), (some (68, true))⟩,
    ⟨some 76, .bin .eql (.tmp 74) (.tmp 75), (some (68, true))⟩,
    ⟨some 77, .pick (.tmp 68) (.tmp 76) (.con (.bool false)), none⟩])
  (.cond (.tmp 77) (.seq (.region [⟨some 78, .mov (.tmp 10), none⟩,
    ⟨some 79, .mov (.tmp 7), none⟩,
    ⟨some 80, .bin .sub (.tmp 78) (.tmp 79), none⟩,
    ⟨some 4, .mov (.tmp 80), none⟩])
  (.ret)) (.skip)))))))))
abbrev l_internal_bytealg_IndexRabinKarp_string_0 : CC := .kill [4, 11, 12, 13, 14, 15, 16, 17, 18, 19, 20, 21, 22, 23, 24, 25, 26, 27, 28, 29] (.seq (.seq (.region [⟨some 18, .mov (.tmp 9), none⟩,
    ⟨some 19, .mov (.tmp 7), none⟩,
    ⟨some 20, .bin .lss (.tmp 18) (.tmp 19), none⟩])
  (.cond (.tmp 20) (.skip) (.kill [9, 18, 19, 20] (.exit 0))))
  (.seq (.block 1 (.region [⟨some 23, .mov (.tmp 8), none⟩,
    ⟨some 24, .bin .mul (.tmp 23) (.con (.int .u32 16777619)), none⟩,
    ⟨some 25, .mov (.tmp 0), none⟩,
    ⟨some 26, .mov (.tmp 9), none⟩,
    ⟨some 27, .idxs (.tmp 25) (.tmp 26), none⟩,
    ⟨some 28, .cInt .u32 (.tmp 27), none⟩,
    ⟨some 29, .bin .add (.tmp 24) (.tmp 28), none⟩,
    ⟨some 8, .mov (.tmp 29), none⟩]))
  (.region [⟨some 21, .mov (.tmp 9), none⟩,
    ⟨some 22, .bin .add (.tmp 21) (.con (.int .i64 1)), none⟩,
    ⟨some 9, .mov (.tmp 22), none⟩])))
/-- internal/bytealg.IndexRabinKarp[string] -/
def c_internal_bytealg_IndexRabinKarp_string : CFn := ⟨81, .seq (.region [⟨some 4, .mov (.con (.int .i64 0)), none⟩])
  (.seq (.region [⟨some 12, .mov (.tmp 1), none⟩,
    ⟨some 13, .pcall 144 [(.tmp 12)], none⟩,
    ⟨some 11, .mov (.tmp 13), none⟩,
    ⟨some 14, .extract 11 0, none⟩,
    ⟨some 15, .extract 11 1, none⟩,
    ⟨some 5, .mov (.tmp 14), none⟩,
    ⟨some 6, .mov (.tmp 15), none⟩])
  (.seq (.region [⟨some 16, .mov (.tmp 1), none⟩,
    ⟨some 17, .lens (.tmp 16), none⟩,
    ⟨some 7, .mov (.tmp 17), none⟩])
  (.seq (.region [⟨some 8, .mov (.con (.int .u32 0)), none⟩])
  (.seq (.seq (.region [⟨some 9, .mov (.con (.int .i64 0)), none⟩])
  (.block 0 (.kill [4, 11, 12, 13, 14, 15, 16, 17, 18, 19, 20, 21, 22, 23, 24, 25, 26, 27, 28, 29] (.loop l_internal_bytealg_IndexRabinKarp_string_0))))
  (.seq (.seq (.region [⟨some 30, .mov (.tmp 8), none⟩,
    ⟨some 31, .mov (.tmp 5), none⟩,
    ⟨some 32, .bin .eql (.tmp 30) (.tmp 31), none⟩,
    ⟨some 33, .mov (.tmp 32), none⟩,
    ⟨some 34, .mov (.tmp 0), (some (33, true))⟩,
    ⟨some 35, .mov (.tmp 7), (some (33, true))⟩,
    ⟨some 36, .slice none (.tmp 34) none (some (.tmp 35)) none, (some (33, true))⟩,
    ⟨some 37, .mov (.tmp 1), (some (33, true))⟩,
    ⟨some 38, .bin .eql (.tmp 36) (.tmp 37), (some (33, true))⟩,
    ⟨some 39, .pick (.tmp 33) (.tmp 38) (.con (.bool false)), none⟩])
  (.cond (.tmp 39) (.seq (.region [⟨some 4, .mov (.con (.int .i64 0)), none⟩])
  (.ret)) (.skip)))
  (.seq (.seq (.region [⟨some 40, .mov (.tmp 7), none⟩,
    ⟨some 10, .mov (.tmp 40), none⟩])
  (.block 2 (.kill [4, 30, 31, 32, 33, 34, 35, 36, 37, 38, 39, 40, 41, 42, 43, 44, 45, 46, 47, 48, 49, 50, 51, 52, 53, 54, 55, 56, 57, 58, 59, 60, 61, 62, 63, 64, 65, 66, 67, 68, 69, 70, 71, 72, 73, 74, 75, 76, 77, 78, 79, 80] (.loop l_internal_bytealg_IndexRabinKarp_string_1))))
  (.seq (.region [⟨some 4, .mov (.con (.int .i64 (-1))), none⟩])
  (.ret)))))))),
  [.tmp 4]⟩
theorem is_internal_bytealg_IndexRabinKarp_string : IsFn Tryz.prog 134 c_internal_bytealg_IndexRabinKarp_string := isFn_of [([], []), ([], [1]), ([], []), ([], []), ([], []), ([4, 11, 12, 13, 14, 15, 16, 17, 18, 19, 20, 21, 22, 23, 24, 25, 26, 27, 28, 29], []), ([], []), ([9, 18, 19, 20], []), ([], []), ([], []), ([], []), ([], []), ([], []), ([], []), ([4, 30, 31, 32, 33, 34, 35, 36, 37, 38, 39, 40, 41, 42, 43, 44, 45, 46, 47, 48, 49, 50, 51, 52, 53, 54, 55, 56, 57, 58, 59, 60, 61, 62, 63, 64, 65, 66, 67, 68, 69, 70, 71, 72, 73, 74, 75, 76, 77, 78, 79, 80], []), ([], []), ([0, 1, 5, 6, 7, 8, 10, 41, 42, 43, 44], []), ([], []), ([], []), ([], []), ([], []), ([], []), ([], []), ([], []), ([], []), ([], [])] (by kernel_rfl)

/-- strconv.baseError -/
def c_strconv_baseError : CFn := ⟨16, .seq (.region [⟨some 6, .mov (.con (.nilp)), none⟩])
  (.seq (.region [⟨some 7, .mov (.tmp 0), none⟩,
    ⟨some 8, .mov (.tmp 1), none⟩,
    ⟨some 9, .pcall 146 [(.tmp 8)], none⟩,
    ⟨some 10, .mov (.tmp 2), none⟩,
    ⟨some 11, .pcall 58 [(.tmp 10)], none⟩,
    ⟨some 12, .bin .add (.con (.str ⟨#[105, 110, 118, 97, 108, 105, 100, 32, 98, 97, 115, 101, 32]⟩)) (.tmp 11), none⟩,
    ⟨some 13, .call 147 [(.tmp 12)], none⟩,
    ⟨some 14, .build [.str ⟨#[]⟩, .str ⟨#[]⟩, .nili] [(0, 1, (.tmp 7)), (1, 1, (.tmp 9)), (2, 1, (.tmp 13))], none⟩,
    ⟨some 15, .box (.tmp 14), none⟩,
    ⟨some 6, .mov (.tmp 15), none⟩])
  (.ret)),
  [.tmp 6]⟩
theorem is_strconv_baseError : IsFn Tryz.prog 138 c_strconv_baseError := isFn_of [([], []), ([], [2, 4]), ([], [])] (by kernel_rfl)

/-- strconv.bitSizeError -/
def c_strconv_bitSizeError : CFn := ⟨16, .seq (.region [⟨some 6, .mov (.con (.nilp)), none⟩])
  (.seq (.region [⟨some 7, .mov (.tmp 0), none⟩,
    ⟨some 8, .mov (.tmp 1), none⟩,
    ⟨some 9, .pcall 146 [(.tmp 8)], none⟩,
    ⟨some 10, .mov (.tmp 2), none⟩,
    ⟨some 11, .pcall 58 [(.tmp 10)], none⟩,
    ⟨some 12, .bin .add (.con (.str ⟨#[105, 110, 118, 97, 108, 105, 100, 32, 98, 105, 116, 32, 115, 105, 122, 101, 32]⟩)) (.tmp 11), none⟩,
    ⟨some 13, .call 147 [(.tmp 12)], none⟩,
    ⟨some 14, .build [.str ⟨#[]⟩, .str ⟨#[]⟩, .nili] [(0, 1, (.tmp 7)), (1, 1, (.tmp 9)), (2, 1, (.tmp 13))], none⟩,
    ⟨some 15, .box (.tmp 14), none⟩,
    ⟨some 6, .mov (.tmp 15), none⟩])
  (.ret)),
  [.tmp 6]⟩
theorem is_strconv_bitSizeError : IsFn Tryz.prog 139 c_strconv_bitSizeError := isFn_of [([], []), ([], [2, 4]), ([], [])] (by kernel_rfl)

abbrev s_internal_bytealg_hashStr_string_0 (v0 v4 v5 : AV) : List AV := [v0, undefA, .any, .any, v4, v5, undefA, undefA, undefA, .any, .any, .any, .any, .any, .any, .any, .any, .any, .any, .any, .any, .any, undefA, undefA, undefA, undefA, undefA, undefA, undefA, undefA, undefA, undefA, undefA, undefA, undefA, undefA, undefA, undefA, undefA]
abbrev s_internal_bytealg_hashStr_string_1 (v4 v6 v7 v8 : AV) : List AV := [.any, undefA, .any, .any, v4, .any, v6, v7, v8, .any, .any, .any, .any, .any, .any, .any, .any, .any, .any, .any, .any, .any, .any, .any, .any, .any, .any, .any, .any, .any, .any, .any, .any, .any, .any, .any, .any, undefA, undefA]
abbrev x_internal_bytealg_hashStr_string_0 (v0 v4 : AV) : List AV := [v0, undefA, .any, .any, v4, .any, undefA, undefA, undefA, .any, .any, .any, .any, .any, .any, .any, .any, .any, .any, .any, .any, .any, undefA, undefA, undefA, undefA, undefA, undefA, undefA, undefA, undefA, undefA, undefA, undefA, undefA, undefA, undefA, undefA, undefA]
abbrev x_internal_bytealg_hashStr_string_2 (v4 v6 : AV) : List AV := [.any, undefA, .any, .any, v4, .any, v6, .any, .any, .any, .any, .any, .any, .any, .any, .any, .any, .any, .any, .any, .any, .any, .any, .any, .any, .any, .any, .any, .any, .any, .any, .any, .any, .any, .any, .any, .any, undefA, undefA]
abbrev l_internal_bytealg_hashStr_string_1 : CC := .kill [0, 22, 23, 24, 25, 26, 27, 28, 29, 30, 31, 32, 33, 34, 35, 36] (.seq (.seq (.region [⟨some 24, .mov (.tmp 8), none⟩,
    ⟨some 25, .bin .gtr (.tmp 24) (.con (.int .i64 0)), none⟩])
  (.cond (.tmp 25) (.skip) (.kill [7, 8, 24, 25] (.exit 2))))
  (.seq (.block 3 (.seq (.seq (.region [⟨some 28, .mov (.tmp 8), none⟩,
    ⟨some 29, .bin .and (.tmp 28) (.con (.int .i64 1)), none⟩,
    ⟨some 30, .bin .neq (.tmp 29) (.con (.int .i64 0)), none⟩])
  (.cond (.tmp 30) (.region [⟨some 31, .mov (.tmp 6), none⟩,
    ⟨some 32, .mov (.tmp 7), none⟩,
    ⟨some 33, .bin .mul (.tmp 31) (.tmp 32), none⟩,
    ⟨some 6, .mov (.tmp 33), none⟩]) (.skip)))
  (.region [⟨some 34, .mov (.tmp 7), none⟩,
    ⟨some 35, .mov (.tmp 7), none⟩,
    ⟨some 36, .bin .mul (.tmp 34) (.tmp 35), none⟩,
    ⟨some 7, .mov (.tmp 36), none⟩])))
  (.region [⟨some 26, .mov (.tmp 8), none⟩,
    ⟨some 27, .bin .shr (.tmp 26) (.con (.int .u64 1)), none⟩,
    ⟨some 8, .mov (.tmp 27), none⟩])))
abbrev l_internal_bytealg_hashStr_string_0 : CC := .kill [2, 3, 9, 10, 11, 12, 13, 14, 15, 16, 17, 18, 19, 20, 21] (.seq (.seq (.region [⟨some 9, .mov (.tmp 5), none⟩,
    ⟨some 10, .mov (.tmp 0), none⟩,
    ⟨some 11, .lens (.tmp 10), none⟩,
    ⟨some 12, .bin .lss (.tmp 9) (.tmp 11), none⟩])
  (.cond (.tmp 12) (.skip) (.kill [5, 9, 10, 11, 12] (.exit 0))))
  (.seq (.block 1 (.region [⟨some 15, .mov (.tmp 4), none⟩,
    ⟨some 16, .bin .mul (.tmp 15) (.con (.int .u32 16777619)), none⟩,
    ⟨some 17, .mov (.tmp 0), none⟩,
    ⟨some 18, .mov (.tmp 5), none⟩,
    ⟨some 19, .idxs (.tmp 17) (.tmp 18), none⟩,
    ⟨some 20, .cInt .u32 (.tmp 19), none⟩,
    ⟨some 21, .bin .add (.tmp 16) (.tmp 20), none⟩,
    ⟨some 4, .mov (.tmp 21), none⟩]))
  (.region [⟨some 13, .mov (.tmp 5), none⟩,
    ⟨some 14, .bin .add (.tmp 13) (.con (.int .i64 1)), none⟩,
    ⟨some 5, .mov (.tmp 14), none⟩])))
/-- internal/bytealg.hashStr[string] -/
def c_internal_bytealg_hashStr_string : CFn := ⟨39, .seq (.region [⟨some 2, .mov (.con (.int .u32 0)), none⟩,
    ⟨some 3, .mov (.con (.int .u32 0)), none⟩])
  (.seq (.region [⟨some 4, .mov (.con (.int .u32 0)), none⟩])
  (.seq (.seq (.region [⟨some 5, .mov (.con (.int .i64 0)), none⟩])
  (.block 0 (.kill [2, 3, 9, 10, 11, 12, 13, 14, 15, 16, 17, 18, 19, 20, 21] (.loop l_internal_bytealg_hashStr_string_0))))
  (.seq (.region [⟨some 6, .mov (.con (.int .u32 1)), none⟩,
    ⟨some 7, .mov (.con (.int .u32 16777619)), none⟩])
  (.seq (.seq (.region [⟨some 22, .mov (.tmp 0), none⟩,
    ⟨some 23, .lens (.tmp 22), none⟩,
    ⟨some 8, .mov (.tmp 23), none⟩])
  (.block 2 (.kill [0, 22, 23, 24, 25, 26, 27, 28, 29, 30, 31, 32, 33, 34, 35, 36] (.loop l_internal_bytealg_hashStr_string_1))))
  (.seq (.region [⟨some 37, .mov (.tmp 4), none⟩,
    ⟨some 38, .mov (.tmp 6), none⟩,
    ⟨some 2, .mov (.tmp 37), none⟩,
    ⟨some 3, .mov (.tmp 38), none⟩])
  (.ret)))))),
  [.tmp 2, .tmp 3]⟩
theorem is_internal_bytealg_hashStr_string : IsFn Tryz.prog 144 c_internal_bytealg_hashStr_string := isFn_of [([], []), ([], []), ([], []), ([2, 3, 9, 10, 11, 12, 13, 14, 15, 16, 17, 18, 19, 20, 21], []), ([], []), ([5, 9, 10, 11, 12], []), ([], []), ([], []), ([], []), ([], []), ([0, 22, 23, 24, 25, 26, 27, 28, 29, 30, 31, 32, 33, 34, 35, 36], []), ([], []), ([7, 8, 24, 25], []), ([], []), ([], []), ([], []), ([], []), ([], []), ([], [])] (by kernel_rfl)

abbrev s_internal_strconv_ParseUint_0 (v1 v8 v9 v10 v11 v12 v13 v99 v100 v101 : AV) : List AV := [.any, v1, .any, undefA, undefA, undefA, .any, .any, v8, v9, v10, v11, v12, v13, undefA, .any, .any, .any, .any, .any, undefA, .any, .any, .any, undefA, .any, .any, .any, .any, .any, .any, .any, .any, .any, .any, .any, .any, .any, .any, .any, .any, .any, .any, .any, .any, .any, .any, .any, .any, .any, .any, .any, .any, .any, .any, .any, .any, .any, .any, .any, .any, .any, .any, .any, .any, .any, .any, .any, .any, .any, .any, .any, .any, .any, .any, .any, .any, .any, .any, .any, .any, .any, .any, .any, undefA, .any, .any, .any, .any, .any, .any, .any, .any, .any, .any, .any, .any, .any, .any, v99, v100, v101, .any, .any, .any, .any, .any, .any, .any, .any, .any, .any, .any, .any, .any, .any, .any, .any, .any, .any, .any, .any, .any, .any, .any, .any, .any, .any, .any, .any, .any, .any, .any, .any, .any, .any, .any, .any, .any, .any, .any, .any, .any, .any, .any, .any, .any, .any, .any, .any, .any, .any, .any, .any, .any, .any, .any, .any, .any, .any, .any, .any, .any, .any, undefA, undefA, undefA, undefA, undefA, undefA, undefA, undefA]
abbrev x_internal_strconv_ParseUint_3 (v9 v12 v13 : AV) : List AV := [.any, .any, .any, undefA, undefA, undefA, .any, .any, .any, v9, .any, .any, v12, v13, undefA, .any, .any, .any, .any, .any, undefA, .any, .any, .any, undefA, .any, .any, .any, .any, .any, .any, .any, .any, .any, .any, .any, .any, .any, .any, .any, .any, .any, .any, .any, .any, .any, .any, .any, .any, .any, .any, .any, .any, .any, .any, .any, .any, .any, .any, .any, .any, .any, .any, .any, .any, .any, .any, .any, .any, .any, .any, .any, .any, .any, .any, .any, .any, .any, .any, .any, .any, .any, .any, .any, undefA, .any, .any, .any, .any, .any, .any, .any, .any, .any, .any, .any, .any, .any, .any, .any, .any, .any, .any, .any, .any, .any, .any, .any, .any, .any, .any, .any, .any, .any, .any, .any, .any, .any, .any, .any, .any, .any, .any, .any, .any, .any, .any, .any, .any, .any, .any, .any, .any, .any, .any, .any, .any, .any, .any, .any, .any, .any, .any, .any, .any, .any, .any, .any, .any, .any, .any, .any, .any, .any, .any, .any, .any, .any, .any, .any, .any, .any, .any, .any, undefA, undefA, undefA, undefA, undefA, undefA, undefA, undefA]
abbrev x_internal_strconv_ParseUint_4 (v1 v8 v9 v10 v11 v12 v13 v99 v100 v101 : AV) : List AV := [.any, v1, .any, undefA, undefA, undefA, .any, .any, v8, v9, v10, v11, v12, v13, undefA, .any, .any, .any, .any, .any, undefA, .any, .any, .any, undefA, .any, .any, .any, .any, .any, .any, .any, .any, .any, .any, .any, .any, .any, .any, .any, .any, .any, .any, .any, .any, .any, .any, .any, .any, .any, .any, .any, .any, .any, .any, .any, .any, .any, .any, .any, .any, .any, .any, .any, .any, .any, .any, .any, .any, .any, .any, .any, .any, .any, .any, .any, .any, .any, .any, .any, .any, .any, .any, .any, undefA, .any, .any, .any, .any, .any, .any, .any, .any, .any, .any, .any, .any, .any, .any, v99, v100, v101, .any, .any, .any, .any, .any, .any, .any, .any, .any, .any, .any, .any, .any, .any, .any, .any, .any, .any, .any, .any, .any, .any, .any, .any, .any, .any, .any, .any, .any, .any, .any, .any, .any, .any, .any, .any, .any, .any, .any, .any, .any, .any, .any, .any, .any, .any, .any, .any, .any, .any, .any, .any, .any, .any, .any, .any, .any, .any, .any, .any, .any, .any, undefA, undefA, undefA, undefA, undefA, undefA, undefA, undefA]
abbrev l_internal_strconv_ParseUint_0 : CC := .kill [0, 2, 6, 7, 15, 16, 17, 18, 19, 21, 22, 23, 25, 26, 27, 28, 29, 30, 31, 32, 33, 34, 35, 36, 37, 38, 39, 40, 41, 42, 43, 44, 45, 46, 47, 48, 49, 50, 51, 52, 53, 54, 55, 56, 57, 58, 59, 60, 61, 62, 63, 64, 65, 66, 67, 68, 69, 70, 71, 72, 73, 74, 75, 76, 77, 78, 79, 80, 81, 82, 83, 85, 86, 87, 88, 89, 90, 91, 92, 93, 94, 95, 96, 97, 98, 102, 103, 104, 105, 106, 107, 108, 109, 110, 111, 112, 113, 114, 115, 116, 117, 118, 119, 120, 121, 122, 123, 124, 125, 126, 127, 128, 129, 130, 131, 132, 133, 134, 135, 136, 137, 138, 139, 140, 141, 142, 143, 144, 145, 146, 147, 148, 149, 150, 151, 152, 153, 154, 155, 156, 157, 158, 159, 160, 161, 162, 163] (.seq (.region [⟨some 102, .bin .lss (.tmp 101) (.tmp 100), none⟩])
  (.seq (.cond (.tmp 102) (.skip) (.kill [1, 8, 10, 11, 99, 100, 101, 102] (.exit 3)))
  (.seq (.block 4 (.seq (.region [⟨some 103, .iaddr 1 none (.tmp 99) (.tmp 101), none⟩,
    ⟨some 104, .load none (.tmp 103), none⟩,
    ⟨some 15, .mov (.tmp 104), none⟩])
  (.seq (.region [⟨some 16, .mov (.con (.int .u8 0)), none⟩])
  (.seq (.block 5 (.seq (.region [⟨some 107, .mov (.tmp 15), none⟩,
    ⟨some 108, .bin .eql (.tmp 107) (.con (.int .u8 95)), none⟩,
    ⟨some 109, .mov (.tmp 108), none⟩,
    ⟨some 110, .mov (.tmp 8), (some (109, true))⟩,
    ⟨some 111, .pick (.tmp 109) (.tmp 110) (.con (.bool false)), none⟩,
    ⟨some 106, .mov (.tmp 111), none⟩])
  (.cond (.tmp 106) (.seq (.region [⟨some 12, .mov (.con (.bool true)), none⟩])
  (.kill [15, 16, 102, 103, 104, 106, 107, 108, 109, 110, 111] (.exit 4))) (.seq (.region [⟨some 113, .mov (.tmp 15), none⟩,
    ⟨some 114, .bin .leq (.con (.int .u8 48)) (.tmp 113), none⟩,
    ⟨some 115, .mov (.tmp 114), none⟩,
    ⟨some 116, .mov (.tmp 15), (some (115, true))⟩,
    ⟨some 117, .bin .leq (.tmp 116) (.con (.int .u8 57)), (some (115, true))⟩,
    ⟨some 118, .pick (.tmp 115) (.tmp 117) (.con (.bool false)), none⟩,
    ⟨some 112, .mov (.tmp 118), none⟩])
  (.cond (.tmp 112) (.region [⟨some 119, .mov (.tmp 15), none⟩,
    ⟨some 120, .bin .sub (.tmp 119) (.con (.int .u8 48)), none⟩,
    ⟨some 16, .mov (.tmp 120), none⟩]) (.seq (.region [⟨some 122, .mov (.tmp 15), none⟩,
    ⟨some 123, .pcall 148 [(.tmp 122)], none⟩,
    ⟨some 124, .bin .leq (.con (.int .u8 97)) (.tmp 123), none⟩,
    ⟨some 125, .mov (.tmp 124), none⟩,
    ⟨some 126, .mov (.tmp 15), (some (125, true))⟩,
    ⟨some 127, .pcall 148 [(.tmp 126)], (some (125, true))⟩,
    ⟨some 128, .bin .leq (.tmp 127) (.con (.int .u8 122)), (some (125, true))⟩,
    ⟨some 129, .pick (.tmp 125) (.tmp 128) (.con (.bool false)), none⟩,
    ⟨some 121, .mov (.tmp 129), none⟩])
  (.cond (.tmp 121) (.region [⟨some 130, .mov (.tmp 15), none⟩,
    ⟨some 131, .pcall 148 [(.tmp 130)], none⟩,
    ⟨some 132, .bin .sub (.tmp 131) (.con (.int .u8 97)), none⟩,
    ⟨some 133, .bin .add (.tmp 132) (.con (.int .u8 10)), none⟩,
    ⟨some 16, .mov (.tmp 133), none⟩]) (.seq (.region [⟨some 105, .mkif 201 (.con (.int .i64 2)), none⟩,
    ⟨some 6, .mov (.con (.int .u64 0)), none⟩,
    ⟨some 7, .mov (.tmp 105), none⟩])
  (.ret)))))))))
  (.seq (.seq (.region [⟨some 134, .mov (.tmp 16), none⟩,
    ⟨some 135, .mov (.tmp 1), none⟩,
    ⟨some 136, .cInt .u8 (.tmp 135), none⟩,
    ⟨some 137, .bin .geq (.tmp 134) (.tmp 136), none⟩])
  (.cond (.tmp 137) (.seq (.region [⟨some 138, .mkif 201 (.con (.int .i64 2)), none⟩,
    ⟨some 6, .mov (.con (.int .u64 0)), none⟩,
    ⟨some 7, .mov (.tmp 138), none⟩])
  (.ret)) (.skip)))
  (.seq (.seq (.region [⟨some 139, .mov (.tmp 13), none⟩,
    ⟨some 140, .mov (.tmp 10), none⟩,
    ⟨some 141, .bin .geq (.tmp 139) (.tmp 140), none⟩])
  (.cond (.tmp 141) (.seq (.region [⟨some 142, .mov (.tmp 11), none⟩,
    ⟨some 143, .mkif 201 (.con (.int .i64 1)), none⟩,
    ⟨some 6, .mov (.tmp 142), none⟩,
    ⟨some 7, .mov (.tmp 143), none⟩])
  (.ret)) (.skip)))
  (.seq (.region [⟨some 144, .mov (.tmp 13), none⟩,
    ⟨some 145, .mov (.tmp 1), none⟩,
    ⟨some 146, .cInt .u64 (.tmp 145), none⟩,
    ⟨some 147, .bin .mul (.tmp 144) (.tmp 146), none⟩,
    ⟨some 13, .mov (.tmp 147), none⟩])
  (.seq (.region [⟨some 148, .mov (.tmp 13), none⟩,
    ⟨some 149, .mov (.tmp 16), none⟩,
    ⟨some 150, .cInt .u64 (.tmp 149), none⟩,
    ⟨some 151, .bin .add (.tmp 148) (.tmp 150), none⟩,
    ⟨some 17, .mov (.tmp 151), none⟩])
  (.seq (.seq (.region [⟨some 152, .mov (.tmp 17), none⟩,
    ⟨some 153, .mov (.tmp 13), none⟩,
    ⟨some 154, .bin .lss (.tmp 152) (.tmp 153), none⟩,
    ⟨some 155, .mov (.tmp 154), none⟩,
    ⟨some 156, .mov (.tmp 17), (some (155, false))⟩,
    ⟨some 157, .mov (.tmp 11), (some (155, false))⟩,
    ⟨some 158, .bin .gtr (.tmp 156) (.tmp 157), (some (155, false))⟩,
    ⟨some 159, .pick (.tmp 155) (.con (.bool true)) (.tmp 158), none⟩])
  (.cond (.tmp 159) (.seq (.region [⟨some 160, .mov (.tmp 11), none⟩,
    ⟨some 161, .mkif 201 (.con (.int .i64 1)), none⟩,
    ⟨some 6, .mov (.tmp 160), none⟩,
    ⟨some 7, .mov (.tmp 161), none⟩])
  (.ret)) (.skip)))
  (.region [⟨some 162, .mov (.tmp 17), none⟩,
    ⟨some 13, .mov (.tmp 162), none⟩]))))))))))
  (.kill [15, 16, 17, 102, 103, 104, 106, 107, 108, 109, 110, 111, 112, 113, 114, 115, 116, 117, 118, 119, 120, 121, 122, 123, 124, 125, 126, 127, 128, 129, 130, 131, 132, 133, 134, 135, 136, 137, 139, 140, 141, 144, 145, 146, 147, 148, 149, 150, 151, 152, 153, 154, 155, 156, 157, 158, 159, 162] (.region [⟨some 163, .bin .add (.tmp 101) (.con (.int .i64 1)), none⟩,
    ⟨some 101, .mov (.tmp 163), none⟩])))))
/-- internal/strconv.ParseUint -/
def c_internal_strconv_ParseUint : CFn := ⟨172, .seq (.region [⟨some 6, .mov (.con (.int .u64 0)), none⟩,
    ⟨some 7, .mov (.con (.nili)), none⟩])
  (.seq (.seq (.region [⟨some 18, .mov (.tmp 0), none⟩,
    ⟨some 19, .bin .eql (.tmp 18) (.con (.str ⟨#[]⟩)), none⟩])
  (.cond (.tmp 19) (.seq (.region [⟨some 20, .mkif 201 (.con (.int .i64 2)), none⟩,
    ⟨some 6, .mov (.con (.int .u64 0)), none⟩,
    ⟨some 7, .mov (.tmp 20), none⟩])
  (.ret)) (.skip)))
  (.seq (.region [⟨some 21, .mov (.tmp 1), none⟩,
    ⟨some 22, .bin .eql (.tmp 21) (.con (.int .i64 0)), none⟩,
    ⟨some 8, .mov (.tmp 22), none⟩])
  (.seq (.region [⟨some 23, .mov (.tmp 0), none⟩,
    ⟨some 9, .mov (.tmp 23), none⟩])
  (.seq (.block 0 (.seq (.region [⟨some 26, .mov (.tmp 1), none⟩,
    ⟨some 27, .bin .leq (.con (.int .i64 2)) (.tmp 26), none⟩,
    ⟨some 28, .mov (.tmp 27), none⟩,
    ⟨some 29, .mov (.tmp 1), (some (28, true))⟩,
    ⟨some 30, .bin .leq (.tmp 29) (.con (.int .i64 36)), (some (28, true))⟩,
    ⟨some 31, .pick (.tmp 28) (.tmp 30) (.con (.bool false)), none⟩,
    ⟨some 25, .mov (.tmp 31), none⟩])
  (.cond (.tmp 25) (.skip) (.seq (.region [⟨some 33, .mov (.tmp 1), none⟩,
    ⟨some 34, .bin .eql (.tmp 33) (.con (.int .i64 0)), none⟩,
    ⟨some 32, .mov (.tmp 34), none⟩])
  (.cond (.tmp 32) (.seq (.region [⟨some 1, .mov (.con (.int .i64 10)), none⟩])
  (.seq (.region [⟨some 35, .mov (.tmp 0), none⟩,
    ⟨some 36, .idxs (.tmp 35) (.con (.int .i64 0)), none⟩,
    ⟨some 37, .bin .eql (.tmp 36) (.con (.int .u8 48)), none⟩])
  (.cond (.tmp 37) (.block 1 (.seq (.region [⟨some 41, .mov (.tmp 0), none⟩,
    ⟨some 42, .lens (.tmp 41), none⟩,
    ⟨some 43, .bin .geq (.tmp 42) (.con (.int .i64 3)), none⟩,
    ⟨some 44, .mov (.tmp 43), none⟩,
    ⟨some 45, .mov (.tmp 0), (some (44, true))⟩,
    ⟨some 46, .idxs (.tmp 45) (.con (.int .i64 1)), (some (44, true))⟩,
    ⟨some 47, .pcall 148 [(.tmp 46)], (some (44, true))⟩,
    ⟨some 48, .bin .eql (.tmp 47) (.con (.int .u8 98)), (some (44, true))⟩,
    ⟨some 49, .pick (.tmp 44) (.tmp 48) (.con (.bool false)), none⟩,
    ⟨some 40, .mov (.tmp 49), none⟩])
  (.cond (.tmp 40) (.seq (.region [⟨some 1, .mov (.con (.int .i64 2)), none⟩])
  (.region [⟨some 50, .mov (.tmp 0), none⟩,
    ⟨some 51, .slice none (.tmp 50) (some (.con (.int .i64 2))) none none, none⟩,
    ⟨some 0, .mov (.tmp 51), none⟩])) (.seq (.region [⟨some 53, .mov (.tmp 0), none⟩,
    ⟨some 54, .lens (.tmp 53), none⟩,
    ⟨some 55, .bin .geq (.tmp 54) (.con (.int .i64 3)), none⟩,
    ⟨some 56, .mov (.tmp 55), none⟩,
    ⟨some 57, .mov (.tmp 0), (some (56, true))⟩,
    ⟨some 58, .idxs (.tmp 57) (.con (.int .i64 1)), (some (56, true))⟩,
    ⟨some 59, .pcall 148 [(.tmp 58)], (some (56, true))⟩,
    ⟨some 60, .bin .eql (.tmp 59) (.con (.int .u8 111)), (some (56, true))⟩,
    ⟨some 61, .pick (.tmp 56) (.tmp 60) (.con (.bool false)), none⟩,
    ⟨some 52, .mov (.tmp 61), none⟩])
  (.cond (.tmp 52) (.seq (.region [⟨some 1, .mov (.con (.int .i64 8)), none⟩])
  (.region [⟨some 62, .mov (.tmp 0), none⟩,
    ⟨some 63, .slice none (.tmp 62) (some (.con (.int .i64 2))) none none, none⟩,
    ⟨some 0, .mov (.tmp 63), none⟩])) (.seq (.region [⟨some 65, .mov (.tmp 0), none⟩,
    ⟨some 66, .lens (.tmp 65), none⟩,
    ⟨some 67, .bin .geq (.tmp 66) (.con (.int .i64 3)), none⟩,
    ⟨some 68, .mov (.tmp 67), none⟩,
    ⟨some 69, .mov (.tmp 0), (some (68, true))⟩,
    ⟨some 70, .idxs (.tmp 69) (.con (.int .i64 1)), (some (68, true))⟩,
    ⟨some 71, .pcall 148 [(.tmp 70)], (some (68, true))⟩,
    ⟨some 72, .bin .eql (.tmp 71) (.con (.int .u8 120)), (some (68, true))⟩,
    ⟨some 73, .pick (.tmp 68) (.tmp 72) (.con (.bool false)), none⟩,
    ⟨some 64, .mov (.tmp 73), none⟩])
  (.cond (.tmp 64) (.seq (.region [⟨some 1, .mov (.con (.int .i64 16)), none⟩])
  (.region [⟨some 74, .mov (.tmp 0), none⟩,
    ⟨some 75, .slice none (.tmp 74) (some (.con (.int .i64 2))) none none, none⟩,
    ⟨some 0, .mov (.tmp 75), none⟩])) (.seq (.region [⟨some 1, .mov (.con (.int .i64 8)), none⟩])
  (.region [⟨some 38, .mov (.tmp 0), none⟩,
    ⟨some 39, .slice none (.tmp 38) (some (.con (.int .i64 1))) none none, none⟩,
    ⟨some 0, .mov (.tmp 39), none⟩]))))))))) (.skip)))) (.seq (.region [⟨some 24, .mkif 201 (.con (.int .i64 3)), none⟩,
    ⟨some 6, .mov (.con (.int .u64 0)), none⟩,
    ⟨some 7, .mov (.tmp 24), none⟩])
  (.ret)))))))
  (.seq (.seq (.region [⟨some 76, .mov (.tmp 2), none⟩,
    ⟨some 77, .bin .eql (.tmp 76) (.con (.int .i64 0)), none⟩])
  (.cond (.tmp 77) (.region [⟨some 2, .mov (.con (.int .i64 64)), none⟩]) (.seq (.region [⟨some 78, .mov (.tmp 2), none⟩,
    ⟨some 79, .bin .lss (.tmp 78) (.con (.int .i64 0)), none⟩,
    ⟨some 80, .mov (.tmp 79), none⟩,
    ⟨some 81, .mov (.tmp 2), (some (80, false))⟩,
    ⟨some 82, .bin .gtr (.tmp 81) (.con (.int .i64 64)), (some (80, false))⟩,
    ⟨some 83, .pick (.tmp 80) (.con (.bool true)) (.tmp 82), none⟩])
  (.cond (.tmp 83) (.seq (.region [⟨some 84, .mkif 201 (.con (.int .i64 4)), none⟩,
    ⟨some 6, .mov (.con (.int .u64 0)), none⟩,
    ⟨some 7, .mov (.tmp 84), none⟩])
  (.ret)) (.skip)))))
  (.seq (.region [⟨some 10, .mov (.con (.int .u64 0)), none⟩])
  (.seq (.seq (.region [⟨some 85, .mov (.tmp 1), none⟩])
  (.block 2 (.seq (.region [⟨some 91, .bin .eql (.tmp 85) (.con (.int .i64 10)), none⟩,
    ⟨some 90, .mov (.tmp 91), none⟩])
  (.cond (.tmp 90) (.region [⟨some 10, .mov (.con (.int .u64 1844674407370955162)), none⟩]) (.seq (.region [⟨some 93, .bin .eql (.tmp 85) (.con (.int .i64 16)), none⟩,
    ⟨some 92, .mov (.tmp 93), none⟩])
  (.cond (.tmp 92) (.region [⟨some 10, .mov (.con (.int .u64 1152921504606846976)), none⟩]) (.region [⟨some 86, .mov (.tmp 1), none⟩,
    ⟨some 87, .cInt .u64 (.tmp 86), none⟩,
    ⟨some 88, .bin .quo (.con (.int .u64 18446744073709551615)) (.tmp 87), none⟩,
    ⟨some 89, .bin .add (.tmp 88) (.con (.int .u64 1)), none⟩,
    ⟨some 10, .mov (.tmp 89), none⟩])))))))
  (.seq (.region [⟨some 94, .mov (.tmp 2), none⟩,
    ⟨some 95, .cInt .u64 (.tmp 94), none⟩,
    ⟨some 96, .bin .shl (.con (.int .u64 1)) (.tmp 95), none⟩,
    ⟨some 97, .bin .sub (.tmp 96) (.con (.int .u64 1)), none⟩,
    ⟨some 11, .mov (.tmp 97), none⟩])
  (.seq (.region [⟨some 12, .mov (.con (.bool false)), none⟩])
  (.seq (.region [⟨some 13, .mov (.con (.int .u64 0)), none⟩])
  (.seq (.seq (.region [⟨some 98, .mov (.tmp 0), none⟩,
    ⟨some 99, .cStrBytes (.tmp 98), none⟩,
    ⟨some 100, .lenl (.tmp 99), none⟩,
    ⟨some 101, .mov (.con (.int .i64 0)), none⟩])
  (.block 3 (.kill [0, 2, 6, 7, 15, 16, 17, 18, 19, 21, 22, 23, 25, 26, 27, 28, 29, 30, 31, 32, 33, 34, 35, 36, 37, 38, 39, 40, 41, 42, 43, 44, 45, 46, 47, 48, 49, 50, 51, 52, 53, 54, 55, 56, 57, 58, 59, 60, 61, 62, 63, 64, 65, 66, 67, 68, 69, 70, 71, 72, 73, 74, 75, 76, 77, 78, 79, 80, 81, 82, 83, 85, 86, 87, 88, 89, 90, 91, 92, 93, 94, 95, 96, 97, 98, 102, 103, 104, 105, 106, 107, 108, 109, 110, 111, 112, 113, 114, 115, 116, 117, 118, 119, 120, 121, 122, 123, 124, 125, 126, 127, 128, 129, 130, 131, 132, 133, 134, 135, 136, 137, 138, 139, 140, 141, 142, 143, 144, 145, 146, 147, 148, 149, 150, 151, 152, 153, 154, 155, 156, 157, 158, 159, 160, 161, 162, 163] (.loop l_internal_strconv_ParseUint_0))))
  (.seq (.seq (.region [⟨some 164, .mov (.tmp 12), none⟩,
    ⟨some 165, .mov (.tmp 164), none⟩,
    ⟨some 166, .mov (.tmp 9), (some (165, true))⟩,
    ⟨some 167, .pcall 149 [(.tmp 166)], (some (165, true))⟩,
    ⟨some 168, .un .not (.tmp 167), (some (165, true))⟩,
    ⟨some 169, .pick (.tmp 165) (.tmp 168) (.con (.bool false)), none⟩])
  (.cond (.tmp 169) (.seq (.region [⟨some 170, .mkif 201 (.con (.int .i64 2)), none⟩,
    ⟨some 6, .mov (.con (.int .u64 0)), none⟩,
    ⟨some 7, .mov (.tmp 170), none⟩])
  (.ret)) (.skip)))
  (.seq (.region [⟨some 171, .mov (.tmp 13), none⟩,
    ⟨some 6, .mov (.tmp 171), none⟩,
    ⟨some 7, .mov (.con (.nili)), none⟩])
  (.ret)))))))))))))),
  [.tmp 6, .tmp 7]⟩
theorem is_internal_strconv_ParseUint : IsFn Tryz.prog 145 c_internal_strconv_ParseUint := isFn_of [([], []), ([], []), ([], []), ([], []), ([], []), ([], []), ([], []), ([], []), ([], []), ([], []), ([], [6]), ([], []), ([], []), ([], [6]), ([], []), ([], []), ([], [6]), ([], []), ([], []), ([], []), ([], []), ([], []), ([], []), ([], []), ([], []), ([], []), ([], []), ([], []), ([], []), ([], []), ([], []), ([], []), ([], []), ([], []), ([], []), ([], []), ([], []), ([], []), ([], []), ([0, 2, 6, 7, 15, 16, 17, 18, 19, 21, 22, 23, 25, 26, 27, 28, 29, 30, 31, 32, 33, 34, 35, 36, 37, 38, 39, 40, 41, 42, 43, 44, 45, 46, 47, 48, 49, 50, 51, 52, 53, 54, 55, 56, 57, 58, 59, 60, 61, 62, 63, 64, 65, 66, 67, 68, 69, 70, 71, 72, 73, 74, 75, 76, 77, 78, 79, 80, 81, 82, 83, 85, 86, 87, 88, 89, 90, 91, 92, 93, 94, 95, 96, 97, 98, 102, 103, 104, 105, 106, 107, 108, 109, 110, 111, 112, 113, 114, 115, 116, 117, 118, 119, 120, 121, 122, 123, 124, 125, 126, 127, 128, 129, 130, 131, 132, 133, 134, 135, 136, 137, 138, 139, 140, 141, 142, 143, 144, 145, 146, 147, 148, 149, 150, 151, 152, 153, 154, 155, 156, 157, 158, 159, 160, 161, 162, 163], []), ([], []), ([1, 8, 10, 11, 99, 100, 101, 102], []), ([], []), ([], []), ([], []), ([], []), ([15, 16, 102, 103, 104, 106, 107, 108, 109, 110, 111], []), ([], []), ([], []), ([], [1, 5]), ([], [1]), ([], []), ([], []), ([], []), ([], []), ([], []), ([], []), ([], []), ([], []), ([], []), ([], []), ([], []), ([], []), ([], []), ([], []), ([15, 16, 17, 102, 103, 104, 106, 107, 108, 109, 110, 111, 112, 113, 114, 115, 116, 117, 118, 119, 120, 121, 122, 123, 124, 125, 126, 127, 128, 129, 130, 131, 132, 133, 134, 135, 136, 137, 139, 140, 141, 144, 145, 146, 147, 148, 149, 150, 151, 152, 153, 154, 155, 156, 157, 158, 159, 162], []), ([], [3]), ([], []), ([], []), ([], []), ([], [])] (by kernel_rfl)

/-- errors.New -/
def c_errors_New : CFn := ⟨7, .seq (.region [⟨some 2, .mov (.con (.nili)), none⟩])
  (.seq (.region [⟨some 3, .mov (.tmp 0), none⟩,
    ⟨some 4, .build [.str ⟨#[]⟩] [(0, 1, (.tmp 3))], none⟩,
    ⟨some 5, .rbox (.tmp 4), none⟩,
    ⟨some 6, .mkif 222 (.tmp 5), none⟩,
    ⟨some 2, .mov (.tmp 6), none⟩])
  (.ret)),
  [.tmp 2]⟩
theorem is_errors_New : IsFn Tryz.prog 147 c_errors_New := isFn_of [([], []), ([], [2]), ([], [])] (by kernel_rfl)

/-- internal/strconv.lower -/
def c_internal_strconv_lower : CFn := ⟨5, .seq (.region [⟨some 2, .mov (.con (.int .u8 0)), none⟩])
  (.seq (.region [⟨some 3, .mov (.tmp 0), none⟩,
    ⟨some 4, .bin .or (.tmp 3) (.con (.int .u8 32)), none⟩,
    ⟨some 2, .mov (.tmp 4), none⟩])
  (.ret)),
  [.tmp 2]⟩
theorem is_internal_strconv_lower : IsFn Tryz.prog 148 c_internal_strconv_lower := isFn_of [([], []), ([], []), ([], [])] (by kernel_rfl)

abbrev s_internal_strconv_underscoreOK_0 (v0 v3 v4 v5 : AV) : List AV := [v0, undefA, .any, v3, v4, v5, .any, .any, .any, .any, .any, .any, .any, .any, .any, .any, .any, .any, .any, .any, .any, .any, .any, .any, .any, .any, .any, .any, .any, .any, .any, .any, .any, .any, .any, .any, .any, .any, .any, .any, .any, .any, .any, .any, .any, .any, .any, .any, .any, .any, .any, .any, .any, .any, .any, .any, .any, .any, .any, .any, .any, .any, .any, .any, .any, .any, .any, .any, .any, .any, .any, .any, .any, .any, .any, .any, .any, .any, .any, .any, .any, .any, .any, .any, .any, .any, .any, .any, .any, .any, .any, .any, undefA, undefA]
abbrev x_internal_strconv_underscoreOK_0 (v3 : AV) : List AV := [.any, undefA, .any, v3, .any, .any, .any, .any, .any, .any, .any, .any, .any, .any, .any, .any, .any, .any, .any, .any, .any, .any, .any, .any, .any, .any, .any, .any, .any, .any, .any, .any, .any, .any, .any, .any, .any, .any, .any, .any, .any, .any, .any, .any, .any, .any, .any, .any, .any, .any, .any, .any, .any, .any, .any, .any, .any, .any, .any, .any, .any, .any, .any, .any, .any, .any, .any, .any, .any, .any, .any, .any, .any, .any, .any, .any, .any, .any, .any, .any, .any, .any, .any, .any, .any, .any, .any, .any, .any, .any, .any, .any, undefA, undefA]
abbrev x_internal_strconv_underscoreOK_1 (v0 v3 v4 v5 : AV) : List AV := [v0, undefA, .any, v3, v4, v5, .any, .any, .any, .any, .any, .any, .any, .any, .any, .any, .any, .any, .any, .any, .any, .any, .any, .any, .any, .any, .any, .any, .any, .any, .any, .any, .any, .any, .any, .any, .any, .any, .any, .any, .any, .any, .any, .any, .any, .any, .any, .any, .any, .any, .any, .any, .any, .any, .any, .any, .any, .any, .any, .any, .any, .any, .any, .any, .any, .any, .any, .any, .any, .any, .any, .any, .any, .any, .any, .any, .any, .any, .any, .any, .any, .any, .any, .any, .any, .any, .any, .any, .any, .any, .any, .any, undefA, undefA]
abbrev l_internal_strconv_underscoreOK_0 : CC := .kill [2, 6, 7, 8, 9, 10, 11, 12, 13, 14, 15, 16, 17, 18, 19, 20, 21, 22, 23, 24, 25, 26, 27, 28, 29, 30, 31, 32, 33, 34, 35, 36, 37, 38, 39, 40, 41, 42, 43, 44, 45, 46, 47, 48, 49, 50, 51, 52, 53, 54, 55, 56, 57, 58, 59, 60, 61, 62, 63, 64, 65, 66, 67, 68, 69, 70, 71, 72, 73, 74, 75, 76, 77, 78, 79, 80, 81, 82, 83, 84, 85, 86, 87, 88, 89, 90, 91] (.seq (.seq (.region [⟨some 51, .mov (.tmp 4), none⟩,
    ⟨some 52, .mov (.tmp 0), none⟩,
    ⟨some 53, .lens (.tmp 52), none⟩,
    ⟨some 54, .bin .lss (.tmp 51) (.tmp 53), none⟩])
  (.cond (.tmp 54) (.skip) (.kill [0, 4, 5, 51, 52, 53, 54] (.exit 0))))
  (.seq (.block 1 (.seq (.seq (.region [⟨some 57, .mov (.tmp 0), none⟩,
    ⟨some 58, .mov (.tmp 4), none⟩,
    ⟨some 59, .idxs (.tmp 57) (.tmp 58), none⟩,
    ⟨some 60, .bin .leq (.con (.int .u8 48)) (.tmp 59), none⟩,
    ⟨some 61, .mov (.tmp 60), none⟩,
    ⟨some 62, .mov (.tmp 0), (some (61, true))⟩,
    ⟨some 63, .mov (.tmp 4), (some (61, true))⟩,
    ⟨some 64, .idxs (.tmp 62) (.tmp 63), (some (61, true))⟩,
    ⟨some 65, .bin .leq (.tmp 64) (.con (.int .u8 57)), (some (61, true))⟩,
    ⟨some 66, .pick (.tmp 61) (.tmp 65) (.con (.bool false)), none⟩,
    ⟨some 67, .mov (.tmp 66), none⟩,
    ⟨some 68, .mov (.tmp 5), (some (67, false))⟩,
    ⟨some 69, .mov (.tmp 68), (some (67, false))⟩,
    ⟨some 70, .mov (.tmp 0), (some (69, true))⟩,
    ⟨some 71, .mov (.tmp 4), (some (69, true))⟩,
    ⟨some 72, .idxs (.tmp 70) (.tmp 71), (some (69, true))⟩,
    ⟨some 73, .pcall 148 [(.tmp 72)], (some (69, true))⟩,
    ⟨some 74, .bin .leq (.con (.int .u8 97)) (.tmp 73), (some (69, true))⟩,
    ⟨some 75, .pick (.tmp 69) (.tmp 74) (.con (.bool false)), (some (67, false))⟩,
    ⟨some 76, .mov (.tmp 75), (some (67, false))⟩,
    ⟨some 77, .mov (.tmp 0), (some (76, true))⟩,
    ⟨some 78, .mov (.tmp 4), (some (76, true))⟩,
    ⟨some 79, .idxs (.tmp 77) (.tmp 78), (some (76, true))⟩,
    ⟨some 80, .pcall 148 [(.tmp 79)], (some (76, true))⟩,
    ⟨some 81, .bin .leq (.tmp 80) (.con (.int .u8 102)), (some (76, true))⟩,
    ⟨some 82, .pick (.tmp 76) (.tmp 81) (.con (.bool false)), (some (67, false))⟩,
    ⟨some 83, .pick (.tmp 67) (.con (.bool true)) (.tmp 82), none⟩])
  (.cond (.tmp 83) (.seq (.region [⟨some 3, .mov (.con (.int .i32 48)), none⟩])
  (.kill [51, 52, 53, 54, 57, 58, 59, 60, 61, 62, 63, 64, 65, 66, 67, 68, 69, 70, 71, 72, 73, 74, 75, 76, 77, 78, 79, 80, 81, 82, 83] (.exit 1))) (.skip)))
  (.seq (.seq (.region [⟨some 84, .mov (.tmp 0), none⟩,
    ⟨some 85, .mov (.tmp 4), none⟩,
    ⟨some 86, .idxs (.tmp 84) (.tmp 85), none⟩,
    ⟨some 87, .bin .eql (.tmp 86) (.con (.int .u8 95)), none⟩])
  (.cond (.tmp 87) (.seq (.seq (.region [⟨some 88, .mov (.tmp 3), none⟩,
    ⟨some 89, .bin .neq (.tmp 88) (.con (.int .i32 48)), none⟩])
  (.cond (.tmp 89) (.seq (.region [⟨some 2, .mov (.con (.bool false)), none⟩])
  (.ret)) (.skip)))
  (.seq (.region [⟨some 3, .mov (.con (.int .i32 95)), none⟩])
  (.kill [51, 52, 53, 54, 57, 58, 59, 60, 61, 62, 63, 64, 65, 66, 67, 68, 69, 70, 71, 72, 73, 74, 75, 76, 77, 78, 79, 80, 81, 82, 83, 84, 85, 86, 87, 88, 89] (.exit 1)))) (.skip)))
  (.seq (.seq (.region [⟨some 90, .mov (.tmp 3), none⟩,
    ⟨some 91, .bin .eql (.tmp 90) (.con (.int .i32 95)), none⟩])
  (.cond (.tmp 91) (.seq (.region [⟨some 2, .mov (.con (.bool false)), none⟩])
  (.ret)) (.skip)))
  (.region [⟨some 3, .mov (.con (.int .i32 33)), none⟩])))))
  (.kill [51, 52, 53, 54, 57, 58, 59, 60, 61, 62, 63, 64, 65, 66, 67, 68, 69, 70, 71, 72, 73, 74, 75, 76, 77, 78, 79, 80, 81, 82, 83, 84, 85, 86, 87, 90, 91] (.region [⟨some 55, .mov (.tmp 4), none⟩,
    ⟨some 56, .bin .add (.tmp 55) (.con (.int .i64 1)), none⟩,
    ⟨some 4, .mov (.tmp 56), none⟩]))))
/-- internal/strconv.underscoreOK -/
def c_internal_strconv_underscoreOK : CFn := ⟨94, .seq (.region [⟨some 2, .mov (.con (.bool false)), none⟩])
  (.seq (.region [⟨some 3, .mov (.con (.int .i32 94)), none⟩])
  (.seq (.region [⟨some 4, .mov (.con (.int .i64 0)), none⟩])
  (.seq (.seq (.region [⟨some 6, .mov (.tmp 0), none⟩,
    ⟨some 7, .lens (.tmp 6), none⟩,
    ⟨some 8, .bin .geq (.tmp 7) (.con (.int .i64 1)), none⟩,
    ⟨some 9, .mov (.tmp 8), none⟩,
    ⟨some 10, .mov (.tmp 0), (some (9, true))⟩,
    ⟨some 11, .idxs (.tmp 10) (.con (.int .i64 0)), (some (9, true))⟩,
    ⟨some 12, .bin .eql (.tmp 11) (.con (.int .u8 45)), (some (9, true))⟩,
    ⟨some 13, .mov (.tmp 12), (some (9, true))⟩,
    ⟨some 14, .mov (.tmp 0), (some (13, false))⟩,
    ⟨some 15, .idxs (.tmp 14) (.con (.int .i64 0)), (some (13, false))⟩,
    ⟨some 16, .bin .eql (.tmp 15) (.con (.int .u8 43)), (some (13, false))⟩,
    ⟨some 17, .pick (.tmp 13) (.con (.bool true)) (.tmp 16), (some (9, true))⟩,
    ⟨some 18, .pick (.tmp 9) (.tmp 17) (.con (.bool false)), none⟩])
  (.cond (.tmp 18) (.region [⟨some 19, .mov (.tmp 0), none⟩,
    ⟨some 20, .slice none (.tmp 19) (some (.con (.int .i64 1))) none none, none⟩,
    ⟨some 0, .mov (.tmp 20), none⟩]) (.skip)))
  (.seq (.region [⟨some 5, .mov (.con (.bool false)), none⟩])
  (.seq (.seq (.region [⟨some 21, .mov (.tmp 0), none⟩,
    ⟨some 22, .lens (.tmp 21), none⟩,
    ⟨some 23, .bin .geq (.tmp 22) (.con (.int .i64 2)), none⟩,
    ⟨some 24, .mov (.tmp 23), none⟩,
    ⟨some 25, .mov (.tmp 0), (some (24, true))⟩,
    ⟨some 26, .idxs (.tmp 25) (.con (.int .i64 0)), (some (24, true))⟩,
    ⟨some 27, .bin .eql (.tmp 26) (.con (.int .u8 48)), (some (24, true))⟩,
    ⟨some 28, .pick (.tmp 24) (.tmp 27) (.con (.bool false)), none⟩,
    ⟨some 29, .mov (.tmp 28), none⟩,
    ⟨some 30, .mov (.tmp 0), (some (29, true))⟩,
    ⟨some 31, .idxs (.tmp 30) (.con (.int .i64 1)), (some (29, true))⟩,
    ⟨some 32, .pcall 148 [(.tmp 31)], (some (29, true))⟩,
    ⟨some 33, .bin .eql (.tmp 32) (.con (.int .u8 98)), (some (29, true))⟩,
    ⟨some 34, .mov (.tmp 33), (some (29, true))⟩,
    ⟨some 35, .mov (.tmp 0), (some (34, false))⟩,
    ⟨some 36, .idxs (.tmp 35) (.con (.int .i64 1)), (some (34, false))⟩,
    ⟨some 37, .pcall 148 [(.tmp 36)], (some (34, false))⟩,
    ⟨some 38, .bin .eql (.tmp 37) (.con (.int .u8 111)), (some (34, false))⟩,
    ⟨some 39, .pick (.tmp 34) (.con (.bool true)) (.tmp 38), (some (29, true))⟩,
    ⟨some 40, .mov (.tmp 39), (some (29, true))⟩,
    ⟨some 41, .mov (.tmp 0), (some (40, false))⟩,
    ⟨some 42, .idxs (.tmp 41) (.con (.int .i64 1)), (some (40, false))⟩,
    ⟨some 43, .pcall 148 [(.tmp 42)], (some (40, false))⟩,
    ⟨some 44, .bin .eql (.tmp 43) (.con (.int .u8 120)), (some (40, false))⟩,
    ⟨some 45, .pick (.tmp 40) (.con (.bool true)) (.tmp 44), (some (29, true))⟩,
    ⟨some 46, .pick (.tmp 29) (.tmp 45) (.con (.bool false)), none⟩])
  (.cond (.tmp 46) (.seq (.region [⟨some 4, .mov (.con (.int .i64 2)), none⟩])
  (.seq (.region [⟨some 3, .mov (.con (.int .i32 48)), none⟩])
  (.region [⟨some 47, .mov (.tmp 0), none⟩,
    ⟨some 48, .idxs (.tmp 47) (.con (.int .i64 1)), none⟩,
    ⟨some 49, .pcall 148 [(.tmp 48)], none⟩,
    ⟨some 50, .bin .eql (.tmp 49) (.con (.int .u8 120)), none⟩,
    ⟨some 5, .mov (.tmp 50), none⟩]))) (.skip)))
  (.seq (.block 0 (.kill [2, 6, 7, 8, 9, 10, 11, 12, 13, 14, 15, 16, 17, 18, 19, 20, 21, 22, 23, 24, 25, 26, 27, 28, 29, 30, 31, 32, 33, 34, 35, 36, 37, 38, 39, 40, 41, 42, 43, 44, 45, 46, 47, 48, 49, 50, 51, 52, 53, 54, 55, 56, 57, 58, 59, 60, 61, 62, 63, 64, 65, 66, 67, 68, 69, 70, 71, 72, 73, 74, 75, 76, 77, 78, 79, 80, 81, 82, 83, 84, 85, 86, 87, 88, 89, 90, 91] (.loop l_internal_strconv_underscoreOK_0)))
  (.seq (.region [⟨some 92, .mov (.tmp 3), none⟩,
    ⟨some 93, .bin .neq (.tmp 92) (.con (.int .i32 95)), none⟩,
    ⟨some 2, .mov (.tmp 93), none⟩])
  (.ret)))))))),
  [.tmp 2]⟩
theorem is_internal_strconv_underscoreOK : IsFn Tryz.prog 149 c_internal_strconv_underscoreOK := isFn_of [([], []), ([], []), ([], []), ([], []), ([], []), ([], []), ([], [11, 16, 22]), ([], []), ([], []), ([], [2]), ([2, 6, 7, 8, 9, 10, 11, 12, 13, 14, 15, 16, 17, 18, 19, 20, 21, 22, 23, 24, 25, 26, 27, 28, 29, 30, 31, 32, 33, 34, 35, 36, 37, 38, 39, 40, 41, 42, 43, 44, 45, 46, 47, 48, 49, 50, 51, 52, 53, 54, 55, 56, 57, 58, 59, 60, 61, 62, 63, 64, 65, 66, 67, 68, 69, 70, 71, 72, 73, 74, 75, 76, 77, 78, 79, 80, 81, 82, 83, 84, 85, 86, 87, 88, 89, 90, 91], []), ([], []), ([0, 4, 5, 51, 52, 53, 54], []), ([], [16, 23]), ([], []), ([51, 52, 53, 54, 57, 58, 59, 60, 61, 62, 63, 64, 65, 66, 67, 68, 69, 70, 71, 72, 73, 74, 75, 76, 77, 78, 79, 80, 81, 82, 83], []), ([], []), ([], []), ([], []), ([], []), ([], []), ([51, 52, 53, 54, 57, 58, 59, 60, 61, 62, 63, 64, 65, 66, 67, 68, 69, 70, 71, 72, 73, 74, 75, 76, 77, 78, 79, 80, 81, 82, 83, 84, 85, 86, 87, 88, 89], []), ([], []), ([], []), ([], []), ([], []), ([51, 52, 53, 54, 57, 58, 59, 60, 61, 62, 63, 64, 65, 66, 67, 68, 69, 70, 71, 72, 73, 74, 75, 76, 77, 78, 79, 80, 81, 82, 83, 84, 85, 86, 87, 90, 91], []), ([], []), ([], [])] (by kernel_rfl)

/-- (*regency/fault.Fault).Unwrap -/
def c_fault_Fault_Unwrap : CFn := ⟨24, .seq (.region [⟨some 2, .take (.con (.sl .ex [])), none⟩])
  (.seq (.seq (.region [⟨some 3, .mov (.tmp 0), none⟩,
    ⟨some 4, .nilck (.tmp 3), none⟩,
    ⟨some 5, .faddr 2 (.tmp 4), none⟩,
    ⟨some 6, .load none (.tmp 5), none⟩,
    ⟨some 7, .isnil .ifc false (.tmp 6), none⟩])
  (.cond (.tmp 7) (.seq (.region [⟨some 8, .mov (.tmp 0), none⟩,
    ⟨some 9, .nilck (.tmp 8), none⟩,
    ⟨some 10, .faddr 1 (.tmp 9), none⟩,
    ⟨some 11, .load none (.tmp 10), none⟩,
    ⟨some 12, .mkif 27 (.tmp 11), none⟩,
    ⟨some 13, .bslice 1 false [(.tmp 12)], none⟩,
    ⟨some 2, .take (.tmp 13), none⟩])
  (.ret)) (.skip)))
  (.seq (.region [⟨some 14, .mov (.tmp 0), none⟩,
    ⟨some 15, .nilck (.tmp 14), none⟩,
    ⟨some 16, .faddr 1 (.tmp 15), none⟩,
    ⟨some 17, .load none (.tmp 16), none⟩,
    ⟨some 18, .mkif 27 (.tmp 17), none⟩,
    ⟨some 19, .mov (.tmp 0), none⟩,
    ⟨some 20, .nilck (.tmp 19), none⟩,
    ⟨some 21, .faddr 2 (.tmp 20), none⟩,
    ⟨some 22, .load none (.tmp 21), none⟩,
    ⟨some 23, .bslice 1 false [(.tmp 18), (.tmp 22)], none⟩,
    ⟨some 2, .take (.tmp 23), none⟩])
  (.ret))),
  [.tmp 2]⟩
theorem is_fault_Fault_Unwrap : IsFn Tryz.prog 171 c_fault_Fault_Unwrap := isFn_of [([], [0]), ([], []), ([], [6]), ([], []), ([], [10]), ([], [])] (by kernel_rfl)

/-- (*strconv.NumError).Unwrap -/
def c_strconv_NumError_Unwrap : CFn := ⟨7, .seq (.region [⟨some 2, .mov (.con (.nili)), none⟩])
  (.seq (.region [⟨some 3, .mov (.tmp 0), none⟩,
    ⟨some 4, .nilck (.tmp 3), none⟩,
    ⟨some 5, .faddr 2 (.tmp 4), none⟩,
    ⟨some 6, .load none (.tmp 5), none⟩,
    ⟨some 2, .mov (.tmp 6), none⟩])
  (.ret)),
  [.tmp 2]⟩
theorem is_strconv_NumError_Unwrap : IsFn Tryz.prog 189 c_strconv_NumError_Unwrap := isFn_of [([], []), ([], []), ([], [])] (by kernel_rfl)

end Go.Proofs.YtjeigcnaalleiaaGreatDoor.F
