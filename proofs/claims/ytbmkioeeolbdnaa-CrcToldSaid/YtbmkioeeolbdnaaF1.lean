/- Functions of the program, compiled, by a program (gen.py). -/
import Derived.Test.YtbmkioeeolbdnaaProg
import Derived.KernelRfl
import Derived.Test.YtbmkioeeolbdnaaM19
set_option maxRecDepth 100000
namespace Go.Proofs.Ytbmkioeeolbdnaa.F
open Go.Proofs.Ytbmkioeeolbdnaa.M Go.Proofs Go.RowKit

/-- regency/regencylaw02.CrcTold -/
def c_regencylaw02_CrcTold : CFn := ⟨89, .seq (.region [⟨some 3, .box (.tmp 1), none⟩,
    ⟨some 4, .mov (.con (.bool false)), none⟩])
  (.seq (.seq (.region [⟨some 13, .pcall 4 [], none⟩,
    ⟨some 14, .un .not (.tmp 13), none⟩])
  (.cond (.tmp 14) (.seq (.region [⟨some 4, .mov (.con (.bool false)), none⟩])
  (.ret)) (.skip)))
  (.seq (.seq (.region [⟨some 15, .mov (.tmp 0), none⟩,
    ⟨some 16, .lenl (.tmp 15), none⟩,
    ⟨some 17, .bin .gtr (.tmp 16) (.con (.int .i64 500)), none⟩])
  (.cond (.tmp 17) (.seq (.region [⟨some 4, .mov (.con (.bool true)), none⟩])
  (.ret)) (.skip)))
  (.seq (.region [⟨some 18, .mov (.tmp 0), none⟩,
    ⟨some 19, .call 5 [(.tmp 18)], none⟩,
    ⟨some 5, .take (.tmp 19), none⟩])
  (.seq (.seq (.region [⟨some 20, .mov (.tmp 5), none⟩,
    ⟨some 21, .lenl (.tmp 20), none⟩,
    ⟨some 22, .mov (.tmp 0), none⟩,
    ⟨some 23, .lenl (.tmp 22), none⟩,
    ⟨some 24, .bin .add (.tmp 23) (.con (.int .i64 4)), none⟩,
    ⟨some 25, .bin .neq (.tmp 21) (.tmp 24), none⟩])
  (.cond (.tmp 25) (.seq (.region [⟨some 4, .mov (.con (.bool false)), none⟩])
  (.ret)) (.skip)))
  (.seq (.region [⟨some 26, .mov (.tmp 5), none⟩,
    ⟨some 27, .lenl (.tmp 26), none⟩,
    ⟨some 28, .bin .mul (.con (.int .i64 8)) (.tmp 27), none⟩,
    ⟨some 6, .mov (.tmp 28), none⟩])
  (.seq (.region [⟨some 29, .iaddr 1 (some 2) (.tmp 3) (.con (.int .i64 0)), none⟩,
    ⟨some 30, .load none (.tmp 29), none⟩,
    ⟨some 31, .cInt .i64 (.tmp 30), none⟩,
    ⟨some 32, .mov (.tmp 6), none⟩,
    ⟨some 33, .bin .rem (.tmp 31) (.tmp 32), none⟩,
    ⟨some 34, .iaddr 1 (some 2) (.tmp 3) (.con (.int .i64 1)), none⟩,
    ⟨some 35, .load none (.tmp 34), none⟩,
    ⟨some 36, .cInt .i64 (.tmp 35), none⟩,
    ⟨some 37, .mov (.tmp 6), none⟩,
    ⟨some 38, .bin .rem (.tmp 36) (.tmp 37), none⟩,
    ⟨some 7, .mov (.tmp 33), none⟩,
    ⟨some 8, .mov (.tmp 38), none⟩])
  (.seq (.region [⟨some 39, .mov (.tmp 5), none⟩,
    ⟨some 40, .mov (.tmp 7), none⟩,
    ⟨some 41, .bin .quo (.tmp 40) (.con (.int .i64 8)), none⟩,
    ⟨some 42, .iaddr 1 none (.tmp 39) (.tmp 41), none⟩,
    ⟨some 43, .load none (.tmp 42), none⟩,
    ⟨some 44, .mov (.tmp 7), none⟩,
    ⟨some 45, .bin .rem (.tmp 44) (.con (.int .i64 8)), none⟩,
    ⟨some 46, .bin .shl (.con (.int .u8 1)) (.tmp 45), none⟩,
    ⟨some 47, .bin .xor (.tmp 43) (.tmp 46), none⟩,
    ⟨some 48, .iaddr 1 none (.tmp 39) (.tmp 41), none⟩,
    ⟨none, .store 1 (.tmp 48) (.tmp 47), none⟩])
  (.seq (.region [⟨some 50, .mov (.tmp 5), none⟩,
    ⟨some 51, .call 6 [(.tmp 50)], none⟩,
    ⟨some 49, .take (.tmp 51), none⟩,
    ⟨some 52, .extract 49 0, none⟩,
    ⟨some 53, .extract 49 1, none⟩,
    ⟨some 9, .take (.tmp 52), none⟩,
    ⟨some 10, .mov (.tmp 53), none⟩])
  (.seq (.region [⟨some 54, .mov (.tmp 5), none⟩,
    ⟨some 55, .mov (.tmp 8), none⟩,
    ⟨some 56, .bin .quo (.tmp 55) (.con (.int .i64 8)), none⟩,
    ⟨some 57, .iaddr 1 none (.tmp 54) (.tmp 56), none⟩,
    ⟨some 58, .load none (.tmp 57), none⟩,
    ⟨some 59, .mov (.tmp 8), none⟩,
    ⟨some 60, .bin .rem (.tmp 59) (.con (.int .i64 8)), none⟩,
    ⟨some 61, .bin .shl (.con (.int .u8 1)) (.tmp 60), none⟩,
    ⟨some 62, .bin .xor (.tmp 58) (.tmp 61), none⟩,
    ⟨some 63, .iaddr 1 none (.tmp 54) (.tmp 56), none⟩,
    ⟨none, .store 1 (.tmp 63) (.tmp 62), none⟩])
  (.seq (.region [⟨some 65, .take (.tmp 5), none⟩,
    ⟨some 66, .call 6 [(.tmp 65)], none⟩,
    ⟨some 64, .take (.tmp 66), none⟩,
    ⟨some 67, .extract 64 0, none⟩,
    ⟨some 68, .extract 64 1, none⟩,
    ⟨some 11, .take (.tmp 67), none⟩,
    ⟨some 12, .mov (.tmp 68), none⟩])
  (.seq (.region [⟨some 69, .mov (.tmp 10), none⟩,
    ⟨some 70, .un .not (.tmp 69), none⟩,
    ⟨some 71, .mov (.tmp 70), none⟩,
    ⟨some 72, .mov (.tmp 12), (some (71, true))⟩,
    ⟨some 73, .mov (.tmp 7), (some (71, true))⟩,
    ⟨some 74, .mov (.tmp 8), (some (71, true))⟩,
    ⟨some 75, .bin .eql (.tmp 73) (.tmp 74), (some (71, true))⟩,
    ⟨some 76, .eqb false (.tmp 72) (.tmp 75), (some (71, true))⟩,
    ⟨some 77, .pick (.tmp 71) (.tmp 76) (.con (.bool false)), none⟩,
    ⟨some 78, .mov (.tmp 77), none⟩,
    ⟨some 79, .mov (.tmp 12), (some (78, true))⟩,
    ⟨some 80, .un .not (.tmp 79), (some (78, true))⟩,
    ⟨some 81, .mov (.tmp 80), (some (78, true))⟩,
    ⟨some 82, .take (.tmp 11), (some (81, false))⟩,
    ⟨some 83, .cBytesStr (.tmp 82), (some (81, false))⟩,
    ⟨some 84, .take (.tmp 0), (some (81, false))⟩,
    ⟨some 85, .cBytesStr (.tmp 84), (some (81, false))⟩,
    ⟨some 86, .bin .eql (.tmp 83) (.tmp 85), (some (81, false))⟩,
    ⟨some 87, .pick (.tmp 81) (.con (.bool true)) (.tmp 86), (some (78, true))⟩,
    ⟨some 88, .pick (.tmp 78) (.tmp 87) (.con (.bool false)), none⟩,
    ⟨some 4, .mov (.tmp 88), none⟩])
  (.ret)))))))))))),
  [.tmp 4]⟩
theorem is_regencylaw02_CrcTold : IsFn Try.prog 3 c_regencylaw02_CrcTold := isFn_of [([], []), ([], [0]), ([], []), ([], []), ([], []), ([], []), ([], []), ([], [2]), ([], []), ([], []), ([], []), ([], []), ([], []), ([], []), ([], [2, 5]), ([], []), ([], [0, 2, 5]), ([], [13, 15]), ([], [])] (by kernel_rfl)

/-- regency/regencylaw02.first -/
def c_regencylaw02_first : CFn := ⟨22, .seq (.region [⟨some 0, .mov (.con (.bool false)), none⟩])
  (.seq (.region [⟨some 4, .bslice 1 true [(.con (.int .u8 97)), (.con (.int .u8 98))], none⟩,
    ⟨some 5, .bconv (.tmp 4), none⟩,
    ⟨some 6, .pcall 5 [(.tmp 5)], none⟩,
    ⟨some 7, .pcall 6 [(.tmp 6)], none⟩,
    ⟨some 3, .take (.tmp 7), none⟩,
    ⟨some 8, .extract 3 0, none⟩,
    ⟨some 9, .extract 3 1, none⟩,
    ⟨some 1, .take (.tmp 8), none⟩,
    ⟨some 2, .mov (.tmp 9), none⟩])
  (.seq (.region [⟨some 10, .bslice 1 true [(.con (.int .u8 49)), (.con (.int .u8 50)), (.con (.int .u8 51)), (.con (.int .u8 52)), (.con (.int .u8 53)), (.con (.int .u8 54)), (.con (.int .u8 55)), (.con (.int .u8 56)), (.con (.int .u8 57))], none⟩,
    ⟨some 11, .bconv (.tmp 10), none⟩,
    ⟨some 12, .pcall 7 [(.tmp 11)], none⟩,
    ⟨some 13, .bin .eql (.tmp 12) (.con (.int .u32 3421780262)), none⟩,
    ⟨some 14, .mov (.tmp 13), none⟩,
    ⟨some 15, .take (.tmp 1), (some (14, true))⟩,
    ⟨some 16, .cBytesStr (.tmp 15), (some (14, true))⟩,
    ⟨some 17, .bin .eql (.tmp 16) (.con (.str ⟨#[97, 98]⟩)), (some (14, true))⟩,
    ⟨some 18, .pick (.tmp 14) (.tmp 17) (.con (.bool false)), none⟩,
    ⟨some 19, .mov (.tmp 18), none⟩,
    ⟨some 20, .mov (.tmp 2), (some (19, true))⟩,
    ⟨some 21, .pick (.tmp 19) (.tmp 20) (.con (.bool false)), none⟩,
    ⟨some 0, .mov (.tmp 21), none⟩])
  (.ret))),
  [.tmp 0]⟩
theorem is_regencylaw02_first : IsFn Try.prog 4 c_regencylaw02_first := isFn_of [([], []), ([], [0, 2, 3, 4, 7]), ([], [0, 2, 5]), ([], [])] (by kernel_rfl)

/-- regency/crc.Seal -/
def c_crc_Seal : CFn := ⟨22, .seq (.region [⟨some 2, .take (.con (.sl .ex [])), none⟩])
  (.seq (.region [⟨some 4, .mov (.tmp 0), none⟩,
    ⟨some 5, .pcall 7 [(.tmp 4)], none⟩,
    ⟨some 3, .mov (.tmp 5), none⟩])
  (.seq (.region [⟨some 6, .take (.tmp 0), none⟩,
    ⟨some 7, .pcall 9 [(.tmp 6)], none⟩,
    ⟨some 8, .pcall 8 [(.tmp 7)], none⟩,
    ⟨some 9, .mov (.tmp 3), none⟩,
    ⟨some 10, .bin .shr (.tmp 9) (.con (.int .u64 24)), none⟩,
    ⟨some 11, .cInt .u8 (.tmp 10), none⟩,
    ⟨some 12, .mov (.tmp 3), none⟩,
    ⟨some 13, .bin .shr (.tmp 12) (.con (.int .u64 16)), none⟩,
    ⟨some 14, .cInt .u8 (.tmp 13), none⟩,
    ⟨some 15, .mov (.tmp 3), none⟩,
    ⟨some 16, .bin .shr (.tmp 15) (.con (.int .u64 8)), none⟩,
    ⟨some 17, .cInt .u8 (.tmp 16), none⟩,
    ⟨some 18, .mov (.tmp 3), none⟩,
    ⟨some 19, .cInt .u8 (.tmp 18), none⟩,
    ⟨some 20, .bslice 1 false [(.tmp 11), (.tmp 14), (.tmp 17), (.tmp 19)], none⟩,
    ⟨some 21, .append 1 1 false (.tmp 8) (.tmp 20), none⟩,
    ⟨some 2, .take (.tmp 21), none⟩])
  (.ret))),
  [.tmp 2]⟩
theorem is_crc_Seal : IsFn Try.prog 5 c_crc_Seal := isFn_of [([], [0]), ([], [1]), ([], [0, 1, 2, 16]), ([], [])] (by kernel_rfl)

/-- regency/crc.Open -/
def c_crc_Open : CFn := ⟨23, .seq (.region [⟨some 2, .take (.con (.sl .ex [])), none⟩,
    ⟨some 3, .mov (.con (.bool false)), none⟩])
  (.seq (.region [⟨some 5, .mov (.tmp 0), none⟩,
    ⟨some 6, .lenl (.tmp 5), none⟩,
    ⟨some 7, .bin .sub (.tmp 6) (.con (.int .i64 4)), none⟩,
    ⟨some 4, .mov (.tmp 7), none⟩])
  (.seq (.seq (.region [⟨some 8, .mov (.tmp 4), none⟩,
    ⟨some 9, .bin .lss (.tmp 8) (.con (.int .i64 0)), none⟩,
    ⟨some 10, .mov (.tmp 9), none⟩,
    ⟨some 11, .mov (.tmp 0), (some (10, false))⟩,
    ⟨some 12, .mov (.tmp 4), (some (10, false))⟩,
    ⟨some 13, .slice (some 1) (.tmp 11) none (some (.tmp 12)) none, (some (10, false))⟩,
    ⟨some 14, .pcall 5 [(.tmp 13)], (some (10, false))⟩,
    ⟨some 15, .mov (.tmp 0), (some (10, false))⟩,
    ⟨some 16, .pcall 10 [(.tmp 14), (.tmp 15)], (some (10, false))⟩,
    ⟨some 17, .un .not (.tmp 16), (some (10, false))⟩,
    ⟨some 18, .pick (.tmp 10) (.con (.bool true)) (.tmp 17), none⟩])
  (.cond (.tmp 18) (.seq (.region [⟨some 2, .take (.con (.sl .ex [])), none⟩,
    ⟨some 3, .mov (.con (.bool false)), none⟩])
  (.ret)) (.skip)))
  (.seq (.region [⟨some 19, .take (.tmp 0), none⟩,
    ⟨some 20, .mov (.tmp 4), none⟩,
    ⟨some 21, .slice (some 1) (.tmp 19) none (some (.tmp 20)) none, none⟩,
    ⟨some 22, .pcall 9 [(.tmp 21)], none⟩,
    ⟨some 2, .take (.tmp 22), none⟩,
    ⟨some 3, .mov (.con (.bool true)), none⟩])
  (.ret)))),
  [.tmp 2, .tmp 3]⟩
theorem is_crc_Open : IsFn Try.prog 6 c_crc_Open := isFn_of [([], [0]), ([], []), ([], [6, 8]), ([], [0]), ([], []), ([], [0, 3, 4]), ([], [])] (by kernel_rfl)

/-- regency/crc.Of -/
def c_crc_Of : CFn := ⟨7, .seq (.region [⟨some 2, .mov (.con (.int .u32 0)), none⟩])
  (.seq (.region [⟨some 3, .alloc [.int .u32 0], none⟩])
  (.seq (.region [⟨some 4, .take (.tmp 0), none⟩,
    ⟨some 5, .call 11 [(.tmp 3), (.tmp 4)], none⟩])
  (.seq (.region [⟨some 6, .call 12 [(.tmp 3)], none⟩,
    ⟨some 2, .mov (.tmp 6), none⟩])
  (.ret)))),
  [.tmp 2]⟩
theorem is_crc_Of : IsFn Try.prog 7 c_crc_Of := isFn_of [([], []), ([], []), ([], [0]), ([], []), ([], [])] (by kernel_rfl)

/-- slices.Clip[[]byte,byte] -/
def c_slices_Clip_byte_byte : CFn := ⟨9, .seq (.region [⟨some 2, .take (.con (.sl .ex [])), none⟩])
  (.seq (.region [⟨some 3, .mov (.tmp 0), none⟩,
    ⟨some 4, .mov (.tmp 0), none⟩,
    ⟨some 5, .lenl (.tmp 4), none⟩,
    ⟨some 6, .take (.tmp 0), none⟩,
    ⟨some 7, .lenl (.tmp 6), none⟩,
    ⟨some 8, .slice (some 1) (.tmp 3) none (some (.tmp 5)) (some (.tmp 7)), none⟩,
    ⟨some 2, .take (.tmp 8), none⟩])
  (.ret)),
  [.tmp 2]⟩
theorem is_slices_Clip_byte_byte : IsFn Try.prog 8 c_slices_Clip_byte_byte := isFn_of [([], [0]), ([], [3, 6]), ([], [])] (by kernel_rfl)

/-- slices.Clone[[]byte,byte] -/
def p_slices_Clone_byte_byte := cloneP 1 1
theorem ok_slices_Clone_byte_byte : OkDef Try.prog 9 (.prim p_slices_Clone_byte_byte) := clone_ok (hs0 := [([], [0])]) (hs2 := [([], [0])]) (hs4 := [([], [1, 3])]) (hs1 := []) (hs3 := []) (hs5 := []) Try.func9 rfl rfl (by kernel_rfl) rfl rfl rfl rfl rfl rfl rfl Try.underlying22 (by kernel_rfl) (by kernel_rfl) (by kernel_rfl)

abbrev s_slices_Equal_byte_byte_0 (v0 v1 v12 v13 : AV) : List AV := [v0, v1, undefA, undefA, .any, .any, .any, .any, .any, .any, .any, .any, v12, v13, .any, .any, .any, .any, .any, .any, .any, .any, .any, .any, .any, .any]
abbrev x_slices_Equal_byte_byte_0  : List AV := [.any, .any, undefA, undefA, .any, .any, .any, .any, .any, .any, .any, .any, .any, .any, .any, .any, .any, .any, .any, .any, .any, .any, .any, .any, .any, .any]
abbrev l_slices_Equal_byte_byte_0 : CC := .kill [4, 5, 6, 7, 8, 9, 10, 11, 14, 15, 16, 17, 18, 19, 20, 21, 22, 23, 24, 25] (.seq (.region [⟨some 14, .bin .lss (.tmp 13) (.tmp 12), none⟩])
  (.seq (.cond (.tmp 14) (.skip) (.kill [0, 1, 12, 13, 14] (.exit 0)))
  (.seq (.block 1 (.seq (.region [⟨some 15, .mov (.tmp 13), none⟩,
    ⟨some 5, .mov (.tmp 15), none⟩])
  (.seq (.region [⟨some 16, .mov (.tmp 0), none⟩,
    ⟨some 17, .mov (.tmp 5), none⟩,
    ⟨some 18, .iaddr 1 none (.tmp 16) (.tmp 17), none⟩,
    ⟨some 19, .load none (.tmp 18), none⟩,
    ⟨some 20, .mov (.tmp 1), none⟩,
    ⟨some 21, .mov (.tmp 5), none⟩,
    ⟨some 22, .iaddr 1 none (.tmp 20) (.tmp 21), none⟩,
    ⟨some 23, .load none (.tmp 22), none⟩,
    ⟨some 24, .bin .neq (.tmp 19) (.tmp 23), none⟩])
  (.cond (.tmp 24) (.seq (.region [⟨some 4, .mov (.con (.bool false)), none⟩])
  (.ret)) (.skip)))))
  (.region [⟨some 25, .bin .add (.tmp 13) (.con (.int .i64 1)), none⟩,
    ⟨some 13, .mov (.tmp 25), none⟩]))))
/-- slices.Equal[[]byte,byte] -/
def c_slices_Equal_byte_byte : CFn := ⟨26, .seq (.region [⟨some 4, .mov (.con (.bool false)), none⟩])
  (.seq (.seq (.region [⟨some 6, .mov (.tmp 0), none⟩,
    ⟨some 7, .lenl (.tmp 6), none⟩,
    ⟨some 8, .mov (.tmp 1), none⟩,
    ⟨some 9, .lenl (.tmp 8), none⟩,
    ⟨some 10, .bin .neq (.tmp 7) (.tmp 9), none⟩])
  (.cond (.tmp 10) (.seq (.region [⟨some 4, .mov (.con (.bool false)), none⟩])
  (.ret)) (.skip)))
  (.seq (.seq (.region [⟨some 11, .mov (.tmp 0), none⟩,
    ⟨some 12, .lenl (.tmp 11), none⟩,
    ⟨some 13, .mov (.con (.int .i64 0)), none⟩])
  (.block 0 (.kill [4, 5, 6, 7, 8, 9, 10, 11, 14, 15, 16, 17, 18, 19, 20, 21, 22, 23, 24, 25] (.loop l_slices_Equal_byte_byte_0))))
  (.seq (.region [⟨some 4, .mov (.con (.bool true)), none⟩])
  (.ret)))),
  [.tmp 4]⟩
theorem is_slices_Equal_byte_byte : IsFn Try.prog 10 c_slices_Equal_byte_byte := isFn_of [([], []), ([], []), ([], []), ([], []), ([], []), ([4, 5, 6, 7, 8, 9, 10, 11, 14, 15, 16, 17, 18, 19, 20, 21, 22, 23, 24, 25], []), ([], []), ([0, 1, 12, 13, 14], []), ([], []), ([], []), ([], []), ([], []), ([], []), ([], []), ([], [])] (by kernel_rfl)

abbrev s_crc_Sum_Add_0 (v0 v4 v15 v16 v17 : AV) : List AV := [v0, .any, undefA, undefA, v4, undefA, .any, .any, .any, .any, .any, .any, .any, .any, .any, v15, v16, v17, .any, .any, .any, .any, .any, .any, .any, .any, .any, .any, .any, .any, .any, .any, .any, .any, .any, .any, undefA, undefA, undefA, undefA, undefA]
abbrev s_crc_Sum_Add_1 (v0 v4 v15 v16 v17 v25 : AV) : List AV := [v0, .any, undefA, undefA, v4, undefA, .any, .any, .any, .any, .any, .any, .any, .any, .any, v15, v16, v17, .any, .any, .any, .any, .any, .any, .any, v25, .any, .any, .any, .any, .any, .any, .any, .any, .any, .any, undefA, undefA, undefA, undefA, undefA]
abbrev x_crc_Sum_Add_0 (v0 v4 : AV) : List AV := [v0, .any, undefA, undefA, v4, undefA, .any, .any, .any, .any, .any, .any, .any, .any, .any, .any, .any, .any, .any, .any, .any, .any, .any, .any, .any, .any, .any, .any, .any, .any, .any, .any, .any, .any, .any, .any, undefA, undefA, undefA, undefA, undefA]
abbrev x_crc_Sum_Add_2 (v0 v4 v15 v16 v17 : AV) : List AV := [v0, .any, undefA, undefA, v4, undefA, .any, .any, .any, .any, .any, .any, .any, .any, .any, v15, v16, v17, .any, .any, .any, .any, .any, .any, .any, .any, .any, .any, .any, .any, .any, .any, .any, .any, .any, .any, undefA, undefA, undefA, undefA, undefA]
abbrev l_crc_Sum_Add_1 : CC := .kill [6, 7, 18, 19, 20, 21, 22, 23, 24, 26, 27, 28, 29, 30, 31, 32, 33, 34] (.seq (.region [⟨some 26, .bin .lss (.tmp 25) (.con (.int .i64 8)), none⟩])
  (.seq (.cond (.tmp 26) (.skip) (.kill [25, 26] (.exit 2)))
  (.seq (.block 3 (.seq (.region [⟨some 27, .mov (.tmp 4), none⟩,
    ⟨some 28, .bin .and (.tmp 27) (.con (.int .u32 1)), none⟩,
    ⟨some 7, .mov (.tmp 28), none⟩])
  (.region [⟨some 29, .mov (.tmp 4), none⟩,
    ⟨some 30, .bin .shr (.tmp 29) (.con (.int .u64 1)), none⟩,
    ⟨some 31, .mov (.tmp 7), none⟩,
    ⟨some 32, .bin .mul (.con (.int .u32 3988292384)) (.tmp 31), none⟩,
    ⟨some 33, .bin .xor (.tmp 30) (.tmp 32), none⟩,
    ⟨some 4, .mov (.tmp 33), none⟩])))
  (.region [⟨some 34, .bin .add (.tmp 25) (.con (.int .i64 1)), none⟩,
    ⟨some 25, .mov (.tmp 34), none⟩]))))
abbrev l_crc_Sum_Add_0 : CC := .kill [1, 6, 7, 8, 9, 10, 11, 12, 13, 14, 18, 19, 20, 21, 22, 23, 24, 25, 26, 27, 28, 29, 30, 31, 32, 33, 34, 35] (.seq (.region [⟨some 18, .bin .lss (.tmp 17) (.tmp 16), none⟩])
  (.seq (.cond (.tmp 18) (.skip) (.kill [15, 16, 17, 18] (.exit 0)))
  (.seq (.block 1 (.seq (.region [⟨some 19, .iaddr 1 none (.tmp 15) (.tmp 17), none⟩,
    ⟨some 20, .load none (.tmp 19), none⟩,
    ⟨some 6, .mov (.tmp 20), none⟩])
  (.seq (.region [⟨some 21, .mov (.tmp 4), none⟩,
    ⟨some 22, .mov (.tmp 6), none⟩,
    ⟨some 23, .cInt .u32 (.tmp 22), none⟩,
    ⟨some 24, .bin .xor (.tmp 21) (.tmp 23), none⟩,
    ⟨some 4, .mov (.tmp 24), none⟩])
  (.seq (.region [⟨some 25, .mov (.con (.int .i64 0)), none⟩])
  (.block 2 (.kill [6, 7, 18, 19, 20, 21, 22, 23, 24, 26, 27, 28, 29, 30, 31, 32, 33, 34] (.loop l_crc_Sum_Add_1)))))))
  (.region [⟨some 35, .bin .add (.tmp 17) (.con (.int .i64 1)), none⟩,
    ⟨some 17, .mov (.tmp 35), none⟩]))))
/-- (*regency/crc.Sum).Add -/
def c_crc_Sum_Add : CFn := ⟨41, .seq (.seq (.region [⟨some 8, .mov (.tmp 0), none⟩,
    ⟨some 9, .isnil .ptr false (.tmp 8), none⟩])
  (.cond (.tmp 9) (.ret) (.skip)))
  (.seq (.region [⟨some 10, .mov (.tmp 0), none⟩,
    ⟨some 11, .nilck (.tmp 10), none⟩,
    ⟨some 12, .faddr 0 (.tmp 11), none⟩,
    ⟨some 13, .load none (.tmp 12), none⟩,
    ⟨some 14, .un .xor (.tmp 13), none⟩,
    ⟨some 4, .mov (.tmp 14), none⟩])
  (.seq (.seq (.region [⟨some 15, .take (.tmp 1), none⟩,
    ⟨some 16, .lenl (.tmp 15), none⟩,
    ⟨some 17, .mov (.con (.int .i64 0)), none⟩])
  (.block 0 (.kill [1, 6, 7, 8, 9, 10, 11, 12, 13, 14, 18, 19, 20, 21, 22, 23, 24, 25, 26, 27, 28, 29, 30, 31, 32, 33, 34, 35] (.loop l_crc_Sum_Add_0))))
  (.region [⟨some 36, .mov (.tmp 0), none⟩,
    ⟨some 37, .mov (.tmp 4), none⟩,
    ⟨some 38, .un .xor (.tmp 37), none⟩,
    ⟨some 39, .nilck (.tmp 36), none⟩,
    ⟨some 40, .faddr 0 (.tmp 39), none⟩,
    ⟨none, .store 1 (.tmp 40) (.tmp 38), none⟩]))),
  []⟩
theorem is_crc_Sum_Add : IsFn Try.prog 11 c_crc_Sum_Add := isFn_of [([], []), ([], []), ([], []), ([], [0]), ([1, 6, 7, 8, 9, 10, 11, 12, 13, 14, 18, 19, 20, 21, 22, 23, 24, 25, 26, 27, 28, 29, 30, 31, 32, 33, 34, 35], []), ([], []), ([15, 16, 17, 18], []), ([], []), ([], []), ([], []), ([6, 7, 18, 19, 20, 21, 22, 23, 24, 26, 27, 28, 29, 30, 31, 32, 33, 34], []), ([], []), ([25, 26], []), ([], []), ([], []), ([], []), ([], []), ([], [])] (by kernel_rfl)

/-- (*regency/crc.Sum).Value -/
def c_crc_Sum_Value : CFn := ⟨9, .seq (.region [⟨some 2, .mov (.con (.int .u32 0)), none⟩])
  (.seq (.seq (.region [⟨some 3, .mov (.tmp 0), none⟩,
    ⟨some 4, .isnil .ptr false (.tmp 3), none⟩])
  (.cond (.tmp 4) (.seq (.region [⟨some 2, .mov (.con (.int .u32 0)), none⟩])
  (.ret)) (.skip)))
  (.seq (.region [⟨some 5, .mov (.tmp 0), none⟩,
    ⟨some 6, .nilck (.tmp 5), none⟩,
    ⟨some 7, .faddr 0 (.tmp 6), none⟩,
    ⟨some 8, .load none (.tmp 7), none⟩,
    ⟨some 2, .mov (.tmp 8), none⟩])
  (.ret))),
  [.tmp 2]⟩
theorem is_crc_Sum_Value : IsFn Try.prog 12 c_crc_Sum_Value := isFn_of [([], []), ([], []), ([], []), ([], []), ([], []), ([], [])] (by kernel_rfl)

end Go.Proofs.Ytbmkioeeolbdnaa.F
