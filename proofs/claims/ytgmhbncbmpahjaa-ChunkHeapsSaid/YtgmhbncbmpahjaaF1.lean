/- Functions of the program, compiled, by a program (gen.py). -/
import Derived.Test.YtgmhbncbmpahjaaProg
import Derived.KernelRfl
import Derived.Test.YtgmhbncbmpahjaaM19
set_option maxRecDepth 100000
namespace Go.Proofs.Ytgmhbncbmpahjaa.F
open Go.Proofs.Ytgmhbncbmpahjaa.M Go.Proofs Go.RowKit

abbrev s_regencylaw19_ChunkHeaps_0 (v0 v4 v7 v9 v64 v65 v66 : AV) : List AV := [v0, .any, .any, undefA, v4, undefA, .any, v7, .any, v9, .any, .any, .any, .any, .any, .any, .any, .any, .any, .any, .any, .any, .any, .any, .any, .any, .any, .any, .any, .any, .any, .any, .any, .any, .any, .any, .any, .any, .any, .any, .any, undefA, undefA, undefA, undefA, undefA, undefA, undefA, undefA, undefA, undefA, undefA, undefA, undefA, undefA, undefA, undefA, undefA, undefA, undefA, undefA, undefA, .any, .any, v64, v65, v66, .any, .any, .any, .any, .any, .any, .any, .any, .any, .any, .any, .any, .any, .any, .any, .any, .any, .any, .any, .any, .any, .any, .any, .any, .any, .any, .any, .any, .any, .any, .any, .any, .any, .any, .any, .any, .any, .any, .any, .any, .any, .any, .any, .any, .any, .any, .any, .any, .any, .any, .any, .any, .any, .any, .any, .any, .any, .any, .any, .any, .any, .any, .any, .any, .any, .any, .any, .any, .any, .any, .any, .any, .any, .any, .any, .any, .any, .any, .any, .any, .any, .any, .any, .any, .any, .any, .any, .any, .any, .any, .any]
abbrev x_regencylaw19_ChunkHeaps_0  : List AV := [.any, .any, .any, undefA, .any, undefA, .any, .any, .any, .any, .any, .any, .any, .any, .any, .any, .any, .any, .any, .any, .any, .any, .any, .any, .any, .any, .any, .any, .any, .any, .any, .any, .any, .any, .any, .any, .any, .any, .any, .any, .any, undefA, undefA, undefA, undefA, undefA, undefA, undefA, undefA, undefA, undefA, undefA, undefA, undefA, undefA, undefA, undefA, undefA, undefA, undefA, undefA, undefA, .any, .any, .any, .any, .any, .any, .any, .any, .any, .any, .any, .any, .any, .any, .any, .any, .any, .any, .any, .any, .any, .any, .any, .any, .any, .any, .any, .any, .any, .any, .any, .any, .any, .any, .any, .any, .any, .any, .any, .any, .any, .any, .any, .any, .any, .any, .any, .any, .any, .any, .any, .any, .any, .any, .any, .any, .any, .any, .any, .any, .any, .any, .any, .any, .any, .any, .any, .any, .any, .any, .any, .any, .any, .any, .any, .any, .any, .any, .any, .any, .any, .any, .any, .any, .any, .any, .any, .any, .any, .any, .any, .any, .any, .any, .any, .any]
abbrev l_regencylaw19_ChunkHeaps_0 : CC := .kill [1, 2, 6, 8, 10, 11, 12, 13, 14, 15, 16, 17, 18, 19, 20, 21, 22, 23, 24, 25, 26, 27, 28, 29, 30, 31, 32, 33, 34, 35, 36, 37, 38, 39, 40, 62, 63, 67, 68, 69, 70, 71, 72, 73, 74, 75, 76, 77, 78, 79, 80, 81, 82, 83, 84, 85, 86, 87, 88, 89, 90, 91, 92, 93, 94, 95, 96, 97, 98, 99, 100, 101, 102, 103, 104, 105, 106, 107, 108, 109, 110, 111, 112, 113, 114, 115, 116, 117, 118, 119, 120, 121, 122, 123, 124, 125, 126, 127, 128, 129, 130, 131, 132, 133, 134, 135, 136, 137, 138, 139, 140, 141, 142, 143, 144, 145, 146, 147, 148, 149, 150, 151, 152, 153, 154, 155, 156, 157] (.seq (.region [⟨some 67, .bin .lss (.tmp 66) (.tmp 65), none⟩])
  (.seq (.cond (.tmp 67) (.skip) (.kill [0, 4, 7, 9, 64, 65, 66, 67] (.exit 0)))
  (.seq (.block 1 (.seq (.region [⟨some 68, .mov (.tmp 66), none⟩,
    ⟨some 69, .iaddr 3 none (.tmp 64) (.tmp 66), none⟩,
    ⟨some 70, .load (some 3) (.tmp 69), none⟩,
    ⟨some 11, .alloc [.int .i64 0, .int .i64 0, .sl .ex []], none⟩,
    ⟨some 10, .mov (.tmp 68), none⟩,
    ⟨none, .store 3 (.tmp 11) (.tmp 70), none⟩])
  (.seq (.seq (.region [⟨some 71, .mov (.tmp 10), none⟩,
    ⟨some 72, .bin .geq (.tmp 71) (.con (.int .i64 60)), none⟩,
    ⟨some 73, .mov (.tmp 72), none⟩,
    ⟨some 74, .faddr 2 (.tmp 11), (some (73, false))⟩,
    ⟨some 75, .load none (.tmp 74), (some (73, false))⟩,
    ⟨some 76, .lenl (.tmp 75), (some (73, false))⟩,
    ⟨some 77, .bin .gtr (.tmp 76) (.con (.int .i64 1000)), (some (73, false))⟩,
    ⟨some 78, .pick (.tmp 73) (.con (.bool true)) (.tmp 77), none⟩])
  (.cond (.tmp 78) (.seq (.region [⟨some 6, .mov (.con (.bool true)), none⟩])
  (.ret)) (.skip)))
  (.seq (.seq (.region [⟨some 79, .faddr 0 (.tmp 11), none⟩,
    ⟨some 80, .load none (.tmp 79), none⟩,
    ⟨some 81, .cInt .u64 (.tmp 80), none⟩,
    ⟨some 82, .bin .rem (.tmp 81) (.con (.int .u64 3)), none⟩])
  (.block 2 (.seq (.region [⟨some 84, .bin .eql (.tmp 82) (.con (.int .u64 1)), none⟩,
    ⟨some 83, .mov (.tmp 84), none⟩])
  (.cond (.tmp 83) (.seq (.region [⟨some 86, .mov (.tmp 0), none⟩,
    ⟨some 87, .faddr 1 (.tmp 4), none⟩,
    ⟨some 88, .load none (.tmp 87), none⟩,
    ⟨some 89, .faddr 1 (.tmp 11), none⟩,
    ⟨some 90, .load none (.tmp 89), none⟩,
    ⟨some 91, .pcall 11 [(.tmp 86), (.tmp 88), (.tmp 90)], none⟩,
    ⟨some 85, .take (.tmp 91), none⟩,
    ⟨some 92, .extract 85 0, none⟩,
    ⟨some 93, .extract 85 1, none⟩,
    ⟨some 12, .take (.tmp 92), none⟩,
    ⟨some 13, .mov (.tmp 93), none⟩])
  (.seq (.dregion [(⟨some 94, .mov (.tmp 7), none⟩, false),
    (⟨some 95, .faddr 1 (.tmp 11), none⟩, false),
    (⟨some 96, .load none (.tmp 95), none⟩, false),
    (⟨some 97, .mov (.tmp 12), none⟩, false),
    (⟨some 98, .call 7 [(.tmp 94), (.tmp 96), (.tmp 97)], none⟩, true),
    (⟨some 99, .mov (.tmp 9), none⟩, false),
    (⟨some 100, .faddr 1 (.tmp 11), none⟩, false),
    (⟨some 101, .load none (.tmp 100), none⟩, true),
    (⟨some 102, .mov (.tmp 12), none⟩, false),
    (⟨some 103, .call 12 [(.tmp 99), (.tmp 101), (.tmp 102)], none⟩, false),
    (⟨some 104, .bin .neq (.tmp 98) (.tmp 103), none⟩, false)])
  (.cond (.tmp 104) (.seq (.region [⟨some 6, .mov (.con (.bool false)), none⟩])
  (.ret)) (.skip)))) (.seq (.region [⟨some 106, .bin .eql (.tmp 82) (.con (.int .u64 0)), none⟩,
    ⟨some 105, .mov (.tmp 106), none⟩])
  (.cond (.tmp 105) (.seq (.dregion [(⟨some 107, .mov (.tmp 7), none⟩, false),
    (⟨some 108, .faddr 1 (.tmp 11), none⟩, false),
    (⟨some 109, .load none (.tmp 108), none⟩, false),
    (⟨some 110, .faddr 2 (.tmp 11), none⟩, false),
    (⟨some 111, .load none (.tmp 110), none⟩, false),
    (⟨some 112, .call 7 [(.tmp 107), (.tmp 109), (.tmp 111)], none⟩, true),
    (⟨some 113, .mov (.tmp 9), none⟩, false),
    (⟨some 114, .faddr 1 (.tmp 11), none⟩, false),
    (⟨some 115, .load none (.tmp 114), none⟩, true),
    (⟨some 116, .faddr 2 (.tmp 11), none⟩, false),
    (⟨some 117, .load none (.tmp 116), none⟩, true),
    (⟨some 118, .call 12 [(.tmp 113), (.tmp 115), (.tmp 117)], none⟩, false),
    (⟨some 119, .bin .neq (.tmp 112) (.tmp 118), none⟩, false)])
  (.cond (.tmp 119) (.seq (.region [⟨some 6, .mov (.con (.bool false)), none⟩])
  (.ret)) (.skip))) (.skip)))))))
  (.seq (.region [⟨some 121, .mov (.tmp 7), none⟩,
    ⟨some 122, .call 13 [(.tmp 121)], none⟩,
    ⟨some 120, .take (.tmp 122), none⟩,
    ⟨some 123, .extract 120 0, none⟩,
    ⟨some 124, .extract 120 1, none⟩,
    ⟨some 14, .take (.tmp 123), none⟩,
    ⟨some 15, .mov (.tmp 124), none⟩])
  (.seq (.region [⟨some 126, .mov (.tmp 9), none⟩,
    ⟨some 127, .call 14 [(.tmp 126)], none⟩,
    ⟨some 125, .mov (.tmp 127), none⟩,
    ⟨some 128, .extract 125 0, none⟩,
    ⟨some 129, .extract 125 1, none⟩,
    ⟨some 16, .mov (.tmp 128), none⟩,
    ⟨some 17, .mov (.tmp 129), none⟩])
  (.seq (.dregion [(⟨some 130, .mov (.tmp 7), none⟩, false),
    (⟨some 131, .call 8 [(.tmp 130)], none⟩, false),
    (⟨some 132, .mov (.tmp 9), none⟩, false),
    (⟨some 133, .call 15 [(.tmp 132)], none⟩, false),
    (⟨some 134, .bin .neq (.tmp 131) (.tmp 133), none⟩, false),
    (⟨some 135, .mov (.tmp 134), none⟩, false),
    (⟨some 136, .mov (.tmp 7), (some (135, false))⟩, false),
    (⟨some 137, .faddr 1 (.tmp 11), (some (135, false))⟩, false),
    (⟨some 138, .load none (.tmp 137), (some (135, false))⟩, false),
    (⟨some 139, .call 9 [(.tmp 136), (.tmp 138)], (some (135, false))⟩, true),
    (⟨some 140, .mov (.tmp 9), (some (135, false))⟩, false),
    (⟨some 141, .faddr 1 (.tmp 11), (some (135, false))⟩, false),
    (⟨some 142, .load none (.tmp 141), (some (135, false))⟩, true),
    (⟨some 143, .call 16 [(.tmp 140), (.tmp 142)], (some (135, false))⟩, false),
    (⟨some 144, .bin .neq (.tmp 139) (.tmp 143), (some (135, false))⟩, false),
    (⟨some 145, .pick (.tmp 135) (.con (.bool true)) (.tmp 144), none⟩, false),
    (⟨some 146, .mov (.tmp 145), none⟩, false),
    (⟨some 147, .mov (.tmp 14), (some (146, false))⟩, false),
    (⟨some 148, .cBytesStr (.tmp 147), (some (146, false))⟩, false),
    (⟨some 149, .mov (.tmp 16), (some (146, false))⟩, false),
    (⟨some 150, .bin .neq (.tmp 148) (.tmp 149), (some (146, false))⟩, false),
    (⟨some 151, .pick (.tmp 146) (.con (.bool true)) (.tmp 150), none⟩, false),
    (⟨some 152, .mov (.tmp 151), none⟩, false),
    (⟨some 153, .mov (.tmp 15), (some (152, false))⟩, false),
    (⟨some 154, .mov (.tmp 17), (some (152, false))⟩, false),
    (⟨some 155, .bin .neq (.tmp 153) (.tmp 154), (some (152, false))⟩, false),
    (⟨some 156, .pick (.tmp 152) (.con (.bool true)) (.tmp 155), none⟩, false)])
  (.cond (.tmp 156) (.seq (.region [⟨some 6, .mov (.con (.bool false)), none⟩])
  (.ret)) (.skip)))))))))
  (.region [⟨some 157, .bin .add (.tmp 66) (.con (.int .i64 1)), none⟩,
    ⟨some 66, .mov (.tmp 157), none⟩]))))
/-- regency/regencylaw19.ChunkHeaps -/
def c_regencylaw19_ChunkHeaps : CFn := ⟨158, .seq (.region [⟨some 4, .box (.tmp 1), none⟩,
    ⟨some 6, .mov (.con (.bool false)), none⟩])
  (.seq (.seq (.region [⟨some 18, .pcall 4 [], none⟩,
    ⟨some 19, .un .not (.tmp 18), none⟩])
  (.cond (.tmp 19) (.seq (.region [⟨some 6, .mov (.con (.bool false)), none⟩])
  (.ret)) (.skip)))
  (.seq (.seq (.region [⟨some 20, .mov (.tmp 0), none⟩,
    ⟨some 21, .lenl (.tmp 20), none⟩,
    ⟨some 22, .bin .gtr (.tmp 21) (.con (.int .i64 2000)), none⟩,
    ⟨some 23, .mov (.tmp 22), none⟩,
    ⟨some 24, .faddr 0 (.tmp 4), (some (23, false))⟩,
    ⟨some 25, .load none (.tmp 24), (some (23, false))⟩,
    ⟨some 26, .bin .gtr (.tmp 25) (.con (.int .i64 5000)), (some (23, false))⟩,
    ⟨some 27, .mov (.tmp 26), (some (23, false))⟩,
    ⟨some 28, .faddr 0 (.tmp 4), (some (27, true))⟩,
    ⟨some 29, .load none (.tmp 28), (some (27, true))⟩,
    ⟨some 30, .bin .leq (.tmp 29) (.con (.int .i64 1073741824)), (some (27, true))⟩,
    ⟨some 31, .pick (.tmp 27) (.tmp 30) (.con (.bool false)), (some (23, false))⟩,
    ⟨some 32, .pick (.tmp 23) (.con (.bool true)) (.tmp 31), none⟩])
  (.cond (.tmp 32) (.seq (.region [⟨some 6, .mov (.con (.bool true)), none⟩])
  (.ret)) (.skip)))
  (.seq (.region [⟨some 34, .load (some 3) (.tmp 4), none⟩,
    ⟨some 35, .call 5 [(.tmp 34)], none⟩,
    ⟨some 33, .mov (.tmp 35), none⟩,
    ⟨some 36, .extract 33 0, none⟩,
    ⟨some 37, .extract 33 1, none⟩,
    ⟨some 7, .mov (.tmp 36), none⟩,
    ⟨some 8, .mov (.tmp 37), none⟩])
  (.seq (.seq (.region [⟨some 38, .load (some 3) (.tmp 4), none⟩,
    ⟨some 39, .pcall 6 [(.tmp 38)], none⟩,
    ⟨some 40, .un .not (.tmp 39), none⟩])
  (.cond (.tmp 40) (.seq (.region [⟨some 41, .mov (.tmp 7), none⟩,
    ⟨some 42, .isnil .ptr false (.tmp 41), none⟩,
    ⟨some 43, .mov (.tmp 42), none⟩,
    ⟨some 44, .mov (.tmp 8), (some (43, true))⟩,
    ⟨some 45, .bin .eql (.tmp 44) (.con (.int .i64 2)), (some (43, true))⟩,
    ⟨some 46, .pick (.tmp 43) (.tmp 45) (.con (.bool false)), none⟩,
    ⟨some 47, .mov (.tmp 46), none⟩,
    ⟨some 48, .mov (.tmp 7), (some (47, true))⟩,
    ⟨some 49, .call 7 [(.tmp 48), (.con (.int .i64 0)), (.con (.sl .ex []))], (some (47, true))⟩,
    ⟨some 50, .bin .eql (.tmp 49) (.con (.int .i64 1)), (some (47, true))⟩,
    ⟨some 51, .pick (.tmp 47) (.tmp 50) (.con (.bool false)), none⟩,
    ⟨some 52, .mov (.tmp 51), none⟩,
    ⟨some 53, .mov (.tmp 7), (some (52, true))⟩,
    ⟨some 54, .call 8 [(.tmp 53)], (some (52, true))⟩,
    ⟨some 55, .bin .eql (.tmp 54) (.con (.int .i64 0)), (some (52, true))⟩,
    ⟨some 56, .pick (.tmp 52) (.tmp 55) (.con (.bool false)), none⟩,
    ⟨some 57, .mov (.tmp 56), none⟩,
    ⟨some 58, .mov (.tmp 7), (some (57, true))⟩,
    ⟨some 59, .call 9 [(.tmp 58), (.con (.int .i64 0))], (some (57, true))⟩,
    ⟨some 60, .bin .eql (.tmp 59) (.con (.int .i64 (-1))), (some (57, true))⟩,
    ⟨some 61, .pick (.tmp 57) (.tmp 60) (.con (.bool false)), none⟩,
    ⟨some 6, .mov (.tmp 61), none⟩])
  (.ret)) (.skip)))
  (.seq (.region [⟨some 62, .load (some 3) (.tmp 4), none⟩,
    ⟨some 63, .call 10 [(.tmp 62)], none⟩,
    ⟨some 9, .mov (.tmp 63), none⟩])
  (.seq (.seq (.region [⟨some 64, .take (.tmp 2), none⟩,
    ⟨some 65, .lenl (.tmp 64), none⟩,
    ⟨some 66, .mov (.con (.int .i64 0)), none⟩])
  (.block 0 (.kill [1, 2, 6, 8, 10, 11, 12, 13, 14, 15, 16, 17, 18, 19, 20, 21, 22, 23, 24, 25, 26, 27, 28, 29, 30, 31, 32, 33, 34, 35, 36, 37, 38, 39, 40, 62, 63, 67, 68, 69, 70, 71, 72, 73, 74, 75, 76, 77, 78, 79, 80, 81, 82, 83, 84, 85, 86, 87, 88, 89, 90, 91, 92, 93, 94, 95, 96, 97, 98, 99, 100, 101, 102, 103, 104, 105, 106, 107, 108, 109, 110, 111, 112, 113, 114, 115, 116, 117, 118, 119, 120, 121, 122, 123, 124, 125, 126, 127, 128, 129, 130, 131, 132, 133, 134, 135, 136, 137, 138, 139, 140, 141, 142, 143, 144, 145, 146, 147, 148, 149, 150, 151, 152, 153, 154, 155, 156, 157] (.loop l_regencylaw19_ChunkHeaps_0))))
  (.seq (.region [⟨some 6, .mov (.con (.bool true)), none⟩])
  (.ret)))))))),
  [.tmp 6]⟩
theorem is_regencylaw19_ChunkHeaps : IsFn Try.prog 3 c_regencylaw19_ChunkHeaps := isFn_of [([], []), ([], [0]), ([], []), ([], []), ([], []), ([], []), ([], []), ([], []), ([], [1]), ([], []), ([], []), ([], []), ([], [0]), ([1, 2, 6, 8, 10, 11, 12, 13, 14, 15, 16, 17, 18, 19, 20, 21, 22, 23, 24, 25, 26, 27, 28, 29, 30, 31, 32, 33, 34, 35, 36, 37, 38, 39, 40, 62, 63, 67, 68, 69, 70, 71, 72, 73, 74, 75, 76, 77, 78, 79, 80, 81, 82, 83, 84, 85, 86, 87, 88, 89, 90, 91, 92, 93, 94, 95, 96, 97, 98, 99, 100, 101, 102, 103, 104, 105, 106, 107, 108, 109, 110, 111, 112, 113, 114, 115, 116, 117, 118, 119, 120, 121, 122, 123, 124, 125, 126, 127, 128, 129, 130, 131, 132, 133, 134, 135, 136, 137, 138, 139, 140, 141, 142, 143, 144, 145, 146, 147, 148, 149, 150, 151, 152, 153, 154, 155, 156, 157], []), ([], []), ([0, 4, 7, 9, 64, 65, 66, 67], []), ([], []), ([], []), ([], []), ([], []), ([], []), ([], []), ([], [5, 6, 9]), ([], []), ([], []), ([], []), ([], []), ([], []), ([], []), ([], []), ([], [2, 5]), ([], []), ([], []), ([], []), ([], []), ([], []), ([], []), ([], [])] (by kernel_rfl)

/-- regency/regencylaw19.first -/
def c_regencylaw19_first : CFn := ⟨93, .seq (.region [⟨some 0, .mov (.con (.bool false)), none⟩])
  (.seq (.region [⟨some 12, .bslice 1 true [(.con (.int .u8 97)), (.con (.int .u8 98)), (.con (.int .u8 99)), (.con (.int .u8 100)), (.con (.int .u8 101))], none⟩,
    ⟨some 13, .bconv (.tmp 12), none⟩,
    ⟨some 1, .take (.tmp 13), none⟩])
  (.seq (.region [⟨some 15, .mov (.tmp 1), none⟩,
    ⟨some 16, .pcall 17 [(.tmp 15), (.con (.int .i64 2))], none⟩,
    ⟨some 14, .mov (.tmp 16), none⟩,
    ⟨some 17, .extract 14 0, none⟩,
    ⟨some 18, .extract 14 1, none⟩,
    ⟨some 2, .alloc [.int .i64 0, .int .i64 0, .int .i64 0], none⟩,
    ⟨none, .store 3 (.tmp 2) (.tmp 17), none⟩,
    ⟨some 3, .mov (.tmp 18), none⟩])
  (.seq (.region [⟨some 20, .take (.tmp 1), none⟩,
    ⟨some 21, .pcall 11 [(.tmp 20), (.con (.int .i64 2)), (.con (.int .i64 2))], none⟩,
    ⟨some 19, .take (.tmp 21), none⟩,
    ⟨some 22, .extract 19 0, none⟩,
    ⟨some 23, .extract 19 1, none⟩,
    ⟨some 4, .take (.tmp 22), none⟩,
    ⟨some 5, .mov (.tmp 23), none⟩])
  (.seq (.region [⟨some 25, .load (some 3) (.tmp 2), none⟩,
    ⟨some 26, .call 5 [(.tmp 25)], none⟩,
    ⟨some 24, .mov (.tmp 26), none⟩,
    ⟨some 27, .extract 24 0, none⟩,
    ⟨some 28, .extract 24 1, none⟩,
    ⟨some 6, .mov (.tmp 27), none⟩,
    ⟨some 7, .mov (.tmp 28), none⟩])
  (.seq (.seq (.region [⟨some 29, .mov (.tmp 3), none⟩,
    ⟨some 30, .un .not (.tmp 29), none⟩,
    ⟨some 31, .mov (.tmp 30), none⟩,
    ⟨some 32, .mov (.tmp 5), (some (31, false))⟩,
    ⟨some 33, .un .not (.tmp 32), (some (31, false))⟩,
    ⟨some 34, .pick (.tmp 31) (.con (.bool true)) (.tmp 33), none⟩,
    ⟨some 35, .mov (.tmp 34), none⟩,
    ⟨some 36, .mov (.tmp 7), (some (35, false))⟩,
    ⟨some 37, .bin .neq (.tmp 36) (.con (.int .i64 0)), (some (35, false))⟩,
    ⟨some 38, .pick (.tmp 35) (.con (.bool true)) (.tmp 37), none⟩,
    ⟨some 39, .mov (.tmp 38), none⟩,
    ⟨some 40, .mov (.tmp 6), (some (39, false))⟩,
    ⟨some 41, .isnil .ptr false (.tmp 40), (some (39, false))⟩,
    ⟨some 42, .pick (.tmp 39) (.con (.bool true)) (.tmp 41), none⟩])
  (.cond (.tmp 42) (.seq (.region [⟨some 0, .mov (.con (.bool false)), none⟩])
  (.ret)) (.skip)))
  (.seq (.region [⟨some 43, .mov (.tmp 6), none⟩,
    ⟨some 44, .mov (.tmp 4), none⟩,
    ⟨some 45, .call 7 [(.tmp 43), (.con (.int .i64 2)), (.tmp 44)], none⟩,
    ⟨some 46, .mov (.tmp 6), none⟩,
    ⟨some 47, .mov (.tmp 4), none⟩,
    ⟨some 48, .call 7 [(.tmp 46), (.con (.int .i64 0)), (.tmp 47)], none⟩,
    ⟨some 8, .mov (.tmp 45), none⟩,
    ⟨some 9, .mov (.tmp 48), none⟩])
  (.seq (.region [⟨some 50, .mov (.tmp 6), none⟩,
    ⟨some 51, .call 13 [(.tmp 50)], none⟩,
    ⟨some 49, .take (.tmp 51), none⟩,
    ⟨some 52, .extract 49 0, none⟩,
    ⟨some 53, .extract 49 1, none⟩,
    ⟨some 10, .take (.tmp 52), none⟩,
    ⟨some 11, .mov (.tmp 53), none⟩])
  (.seq (.region [⟨some 54, .take (.tmp 4), none⟩,
    ⟨some 55, .cBytesStr (.tmp 54), none⟩,
    ⟨some 56, .bin .eql (.tmp 55) (.con (.str ⟨#[101]⟩)), none⟩,
    ⟨some 57, .mov (.tmp 56), none⟩,
    ⟨some 58, .load (some 3) (.tmp 2), (some (57, true))⟩,
    ⟨some 59, .pcall 18 [(.tmp 58)], (some (57, true))⟩,
    ⟨some 60, .bin .eql (.tmp 59) (.con (.int .i64 3)), (some (57, true))⟩,
    ⟨some 61, .pick (.tmp 57) (.tmp 60) (.con (.bool false)), none⟩,
    ⟨some 62, .mov (.tmp 61), none⟩,
    ⟨some 63, .mov (.tmp 8), (some (62, true))⟩,
    ⟨some 64, .bin .eql (.tmp 63) (.con (.int .i64 0)), (some (62, true))⟩,
    ⟨some 65, .pick (.tmp 62) (.tmp 64) (.con (.bool false)), none⟩,
    ⟨some 66, .mov (.tmp 65), none⟩,
    ⟨some 67, .mov (.tmp 9), (some (66, true))⟩,
    ⟨some 68, .bin .eql (.tmp 67) (.con (.int .i64 13)), (some (66, true))⟩,
    ⟨some 69, .pick (.tmp 66) (.tmp 68) (.con (.bool false)), none⟩,
    ⟨some 70, .mov (.tmp 69), none⟩,
    ⟨some 71, .mov (.tmp 11), (some (70, true))⟩,
    ⟨some 72, .bin .eql (.tmp 71) (.con (.int .i64 41)), (some (70, true))⟩,
    ⟨some 73, .pick (.tmp 70) (.tmp 72) (.con (.bool false)), none⟩,
    ⟨some 74, .mov (.tmp 73), none⟩,
    ⟨some 75, .mov (.tmp 6), (some (74, true))⟩,
    ⟨some 76, .call 8 [(.tmp 75)], (some (74, true))⟩,
    ⟨some 77, .bin .eql (.tmp 76) (.con (.int .i64 2)), (some (74, true))⟩,
    ⟨some 78, .pick (.tmp 74) (.tmp 77) (.con (.bool false)), none⟩,
    ⟨some 79, .mov (.tmp 78), none⟩,
    ⟨some 80, .mov (.tmp 6), (some (79, true))⟩,
    ⟨some 81, .call 9 [(.tmp 80), (.con (.int .i64 1))], (some (79, true))⟩,
    ⟨some 82, .bin .eql (.tmp 81) (.con (.int .i64 1)), (some (79, true))⟩,
    ⟨some 83, .pick (.tmp 79) (.tmp 82) (.con (.bool false)), none⟩,
    ⟨some 84, .mov (.tmp 83), none⟩,
    ⟨some 85, .mov (.tmp 6), (some (84, true))⟩,
    ⟨some 86, .call 9 [(.tmp 85), (.con (.int .i64 2))], (some (84, true))⟩,
    ⟨some 87, .bin .eql (.tmp 86) (.con (.int .i64 0)), (some (84, true))⟩,
    ⟨some 88, .pick (.tmp 84) (.tmp 87) (.con (.bool false)), none⟩,
    ⟨some 89, .mov (.tmp 88), none⟩,
    ⟨some 90, .load (some 3) (.tmp 2), (some (89, true))⟩,
    ⟨some 91, .pcall 19 [(.tmp 90)], (some (89, true))⟩,
    ⟨some 92, .pick (.tmp 89) (.tmp 91) (.con (.bool false)), none⟩,
    ⟨some 0, .mov (.tmp 92), none⟩])
  (.ret))))))))),
  [.tmp 0]⟩
theorem is_regencylaw19_first : IsFn Try.prog 4 c_regencylaw19_first := isFn_of [([], []), ([], [0, 2]), ([], [1]), ([], [0, 1, 2, 5]), ([], []), ([], []), ([], []), ([], []), ([], []), ([], [2, 5]), ([], [0, 5, 37]), ([], [])] (by kernel_rfl)

/-- regency/chunk.New -/
def c_chunk_New : CFn := ⟨11, .seq (.region [⟨some 1, .box (.tmp 0), none⟩,
    ⟨some 2, .mov (.con (.nilp)), none⟩,
    ⟨some 3, .mov (.con (.int .i64 0)), none⟩])
  (.seq (.seq (.region [⟨some 4, .load (some 3) (.tmp 1), none⟩,
    ⟨some 5, .pcall 19 [(.tmp 4)], none⟩,
    ⟨some 6, .un .not (.tmp 5), none⟩])
  (.cond (.tmp 6) (.seq (.region [⟨some 2, .mov (.con (.nilp)), none⟩,
    ⟨some 3, .mov (.con (.int .i64 2)), none⟩])
  (.ret)) (.skip)))
  (.seq (.region [⟨some 7, .load (some 3) (.tmp 1), none⟩,
    ⟨some 8, .mkmap, none⟩,
    ⟨some 9, .build [.int .i64 0, .int .i64 0, .int .i64 0, .nilm] [(0, 3, (.tmp 7)), (3, 1, (.tmp 8))], none⟩,
    ⟨some 10, .box (.tmp 9), none⟩,
    ⟨some 2, .mov (.tmp 10), none⟩,
    ⟨some 3, .mov (.con (.int .i64 0)), none⟩])
  (.ret))),
  [.tmp 2, .tmp 3]⟩
theorem is_chunk_New : IsFn Try.prog 5 c_chunk_New := isFn_of [([], []), ([], [1]), ([], []), ([], []), ([], []), ([], [])] (by kernel_rfl)

/-- regency/regencyref19.Right -/
def c_regencyref19_Right : CFn := ⟨31, .seq (.region [⟨some 1, .box (.tmp 0), none⟩,
    ⟨some 2, .mov (.con (.bool false)), none⟩])
  (.seq (.region [⟨some 3, .faddr 0 (.tmp 1), none⟩,
    ⟨some 4, .load none (.tmp 3), none⟩,
    ⟨some 5, .bin .geq (.tmp 4) (.con (.int .i64 0)), none⟩,
    ⟨some 6, .mov (.tmp 5), none⟩,
    ⟨some 7, .faddr 0 (.tmp 1), (some (6, true))⟩,
    ⟨some 8, .load none (.tmp 7), (some (6, true))⟩,
    ⟨some 9, .bin .leq (.tmp 8) (.con (.int .i64 1073741824)), (some (6, true))⟩,
    ⟨some 10, .pick (.tmp 6) (.tmp 9) (.con (.bool false)), none⟩,
    ⟨some 11, .mov (.tmp 10), none⟩,
    ⟨some 12, .faddr 1 (.tmp 1), (some (11, true))⟩,
    ⟨some 13, .load none (.tmp 12), (some (11, true))⟩,
    ⟨some 14, .bin .geq (.tmp 13) (.con (.int .i64 1)), (some (11, true))⟩,
    ⟨some 15, .pick (.tmp 11) (.tmp 14) (.con (.bool false)), none⟩,
    ⟨some 16, .mov (.tmp 15), none⟩,
    ⟨some 17, .faddr 1 (.tmp 1), (some (16, true))⟩,
    ⟨some 18, .load none (.tmp 17), (some (16, true))⟩,
    ⟨some 19, .bin .leq (.tmp 18) (.con (.int .i64 512)), (some (16, true))⟩,
    ⟨some 20, .pick (.tmp 16) (.tmp 19) (.con (.bool false)), none⟩,
    ⟨some 21, .mov (.tmp 20), none⟩,
    ⟨some 22, .faddr 2 (.tmp 1), (some (21, true))⟩,
    ⟨some 23, .load none (.tmp 22), (some (21, true))⟩,
    ⟨some 24, .bin .geq (.tmp 23) (.con (.int .i64 0)), (some (21, true))⟩,
    ⟨some 25, .pick (.tmp 21) (.tmp 24) (.con (.bool false)), none⟩,
    ⟨some 26, .mov (.tmp 25), none⟩,
    ⟨some 27, .faddr 2 (.tmp 1), (some (26, true))⟩,
    ⟨some 28, .load none (.tmp 27), (some (26, true))⟩,
    ⟨some 29, .bin .leq (.tmp 28) (.con (.int .i64 4611686018427387903)), (some (26, true))⟩,
    ⟨some 30, .pick (.tmp 26) (.tmp 29) (.con (.bool false)), none⟩,
    ⟨some 2, .mov (.tmp 30), none⟩])
  (.ret)),
  [.tmp 2]⟩
theorem is_regencyref19_Right : IsFn Try.prog 6 c_regencyref19_Right := isFn_of [([], []), ([], []), ([], [])] (by kernel_rfl)

/-- (*regency/chunk.Heap).Put -/
def c_chunk_Heap_Put : CFn := ⟨50, .seq (.region [⟨some 6, .mov (.con (.int .i64 0)), none⟩])
  (.seq (.seq (.region [⟨some 10, .mov (.tmp 0), none⟩,
    ⟨some 11, .isnil .ptr false (.tmp 10), none⟩])
  (.cond (.tmp 11) (.seq (.region [⟨some 6, .mov (.con (.int .i64 1)), none⟩])
  (.ret)) (.skip)))
  (.seq (.region [⟨some 12, .mov (.tmp 0), none⟩,
    ⟨some 13, .nilck (.tmp 12), none⟩,
    ⟨some 14, .faddr 0 (.tmp 13), none⟩,
    ⟨some 15, .load (some 3) (.tmp 14), none⟩,
    ⟨some 16, .mov (.tmp 1), none⟩,
    ⟨some 17, .pcall 20 [(.tmp 15), (.tmp 16)], none⟩,
    ⟨some 7, .mov (.tmp 17), none⟩])
  (.seq (.region [⟨some 19, .mov (.tmp 0), none⟩,
    ⟨some 20, .nilck (.tmp 19), none⟩,
    ⟨some 21, .faddr 3 (.tmp 20), none⟩,
    ⟨some 22, .load none (.tmp 21), none⟩,
    ⟨some 23, .mov (.tmp 1), none⟩,
    ⟨some 24, .look (.int .i64) (.sl .ex []) true (.tmp 22) (.tmp 23), none⟩,
    ⟨some 18, .take (.tmp 24), none⟩,
    ⟨some 25, .extract 18 0, none⟩,
    ⟨some 26, .extract 18 1, none⟩,
    ⟨some 8, .take (.tmp 25), none⟩,
    ⟨some 9, .mov (.tmp 26), none⟩])
  (.seq (.block 0 (.seq (.region [⟨some 28, .mov (.tmp 7), none⟩,
    ⟨some 29, .bin .lss (.tmp 28) (.con (.int .i64 0)), none⟩,
    ⟨some 27, .mov (.tmp 29), none⟩])
  (.cond (.tmp 27) (.seq (.region [⟨some 6, .mov (.con (.int .i64 37)), none⟩])
  (.ret)) (.seq (.region [⟨some 31, .mov (.tmp 2), none⟩,
    ⟨some 32, .lenl (.tmp 31), none⟩,
    ⟨some 33, .mov (.tmp 7), none⟩,
    ⟨some 34, .bin .neq (.tmp 32) (.tmp 33), none⟩,
    ⟨some 30, .mov (.tmp 34), none⟩])
  (.cond (.tmp 30) (.seq (.region [⟨some 6, .mov (.con (.int .i64 13)), none⟩])
  (.ret)) (.seq (.region [⟨some 36, .mov (.tmp 9), none⟩,
    ⟨some 37, .mov (.tmp 36), none⟩,
    ⟨some 38, .take (.tmp 8), (some (37, true))⟩,
    ⟨some 39, .mov (.tmp 2), (some (37, true))⟩,
    ⟨some 40, .pcall 21 [(.tmp 38), (.tmp 39)], (some (37, true))⟩,
    ⟨some 41, .un .not (.tmp 40), (some (37, true))⟩,
    ⟨some 42, .pick (.tmp 37) (.tmp 41) (.con (.bool false)), none⟩,
    ⟨some 35, .mov (.tmp 42), none⟩])
  (.cond (.tmp 35) (.seq (.region [⟨some 6, .mov (.con (.int .i64 41)), none⟩])
  (.ret)) (.skip))))))))
  (.seq (.region [⟨some 43, .mov (.tmp 0), none⟩,
    ⟨some 44, .nilck (.tmp 43), none⟩,
    ⟨some 45, .faddr 3 (.tmp 44), none⟩,
    ⟨some 46, .load none (.tmp 45), none⟩,
    ⟨some 47, .mov (.tmp 1), none⟩,
    ⟨some 48, .mov (.tmp 2), none⟩,
    ⟨some 49, .pcall 22 [(.tmp 48)], none⟩,
    ⟨none, .mput (.int .i64) (.tmp 46) (.tmp 47) (.tmp 49), none⟩])
  (.seq (.region [⟨some 6, .mov (.con (.int .i64 0)), none⟩])
  (.ret))))))),
  [.tmp 6]⟩
theorem is_chunk_Heap_Put : IsFn Try.prog 7 c_chunk_Heap_Put := isFn_of [([], []), ([], []), ([], []), ([], []), ([], [5]), ([], [6, 9]), ([], []), ([], []), ([], []), ([], []), ([], []), ([], []), ([], [2, 4]), ([], []), ([], []), ([], [6]), ([], []), ([], [])] (by kernel_rfl)

/-- (*regency/chunk.Heap).Missing -/
def c_chunk_Heap_Missing : CFn := ⟨16, .seq (.region [⟨some 2, .mov (.con (.int .i64 0)), none⟩])
  (.seq (.seq (.region [⟨some 3, .mov (.tmp 0), none⟩,
    ⟨some 4, .isnil .ptr false (.tmp 3), none⟩])
  (.cond (.tmp 4) (.seq (.region [⟨some 2, .mov (.con (.int .i64 0)), none⟩])
  (.ret)) (.skip)))
  (.seq (.region [⟨some 5, .mov (.tmp 0), none⟩,
    ⟨some 6, .nilck (.tmp 5), none⟩,
    ⟨some 7, .faddr 0 (.tmp 6), none⟩,
    ⟨some 8, .load (some 3) (.tmp 7), none⟩,
    ⟨some 9, .pcall 18 [(.tmp 8)], none⟩,
    ⟨some 10, .mov (.tmp 0), none⟩,
    ⟨some 11, .nilck (.tmp 10), none⟩,
    ⟨some 12, .faddr 3 (.tmp 11), none⟩,
    ⟨some 13, .load none (.tmp 12), none⟩,
    ⟨some 14, .lenm (.tmp 13), none⟩,
    ⟨some 15, .bin .sub (.tmp 9) (.tmp 14), none⟩,
    ⟨some 2, .mov (.tmp 15), none⟩])
  (.ret))),
  [.tmp 2]⟩
theorem is_chunk_Heap_Missing : IsFn Try.prog 8 c_chunk_Heap_Missing := isFn_of [([], []), ([], []), ([], []), ([], []), ([], [4]), ([], [])] (by kernel_rfl)

abbrev s_chunk_Heap_Next_0 (v0 v1 v5 v21 v22 : AV) : List AV := [v0, v1, undefA, undefA, .any, v5, .any, .any, .any, .any, .any, .any, .any, .any, .any, .any, .any, .any, .any, .any, .any, v21, v22, .any, .any, .any, .any, .any, .any, .any, .any, .any, .any, .any, .any, .any, .any, .any, .any, .any, .any, .any]
abbrev x_chunk_Heap_Next_0  : List AV := [.any, .any, undefA, undefA, .any, .any, .any, .any, .any, .any, .any, .any, .any, .any, .any, .any, .any, .any, .any, .any, .any, .any, .any, .any, .any, .any, .any, .any, .any, .any, .any, .any, .any, .any, .any, .any, .any, .any, .any, .any, .any, .any]
abbrev l_chunk_Heap_Next_0 : CC := .kill [4, 6, 7, 8, 9, 10, 11, 12, 13, 14, 15, 16, 17, 18, 19, 20, 23, 24, 25, 26, 27, 28, 29, 30, 31, 32, 33, 34, 35, 36, 37, 38, 39, 40, 41] (.seq (.region [⟨some 23, .bin .lss (.tmp 22) (.tmp 21), none⟩])
  (.seq (.cond (.tmp 23) (.skip) (.kill [0, 1, 5, 21, 22, 23] (.exit 0)))
  (.seq (.block 1 (.seq (.seq (.region [⟨some 25, .mov (.tmp 0), none⟩,
    ⟨some 26, .nilck (.tmp 25), none⟩,
    ⟨some 27, .faddr 3 (.tmp 26), none⟩,
    ⟨some 28, .load none (.tmp 27), none⟩,
    ⟨some 29, .mov (.tmp 1), none⟩,
    ⟨some 30, .look (.int .i64) (.sl .ex []) true (.tmp 28) (.tmp 29), none⟩,
    ⟨some 24, .take (.tmp 30), none⟩,
    ⟨some 31, .extract 24 0, none⟩,
    ⟨some 32, .extract 24 1, none⟩,
    ⟨some 6, .take (.tmp 31), none⟩,
    ⟨some 7, .mov (.tmp 32), none⟩])
  (.seq (.region [⟨some 33, .mov (.tmp 7), none⟩,
    ⟨some 34, .un .not (.tmp 33), none⟩])
  (.cond (.tmp 34) (.seq (.region [⟨some 35, .mov (.tmp 1), none⟩,
    ⟨some 4, .mov (.tmp 35), none⟩])
  (.ret)) (.skip))))
  (.seq (.region [⟨some 36, .mov (.tmp 1), none⟩,
    ⟨some 37, .bin .add (.tmp 36) (.con (.int .i64 1)), none⟩,
    ⟨some 1, .mov (.tmp 37), none⟩])
  (.seq (.region [⟨some 38, .mov (.tmp 1), none⟩,
    ⟨some 39, .mov (.tmp 5), none⟩,
    ⟨some 40, .bin .eql (.tmp 38) (.tmp 39), none⟩])
  (.cond (.tmp 40) (.region [⟨some 1, .mov (.con (.int .i64 0)), none⟩]) (.skip))))))
  (.region [⟨some 41, .bin .add (.tmp 22) (.con (.int .i64 1)), none⟩,
    ⟨some 22, .mov (.tmp 41), none⟩]))))
/-- (*regency/chunk.Heap).Next -/
def c_chunk_Heap_Next : CFn := ⟨42, .seq (.region [⟨some 4, .mov (.con (.int .i64 0)), none⟩])
  (.seq (.seq (.region [⟨some 8, .mov (.tmp 0), none⟩,
    ⟨some 9, .call 8 [(.tmp 8)], none⟩,
    ⟨some 10, .bin .eql (.tmp 9) (.con (.int .i64 0)), none⟩])
  (.cond (.tmp 10) (.seq (.region [⟨some 4, .mov (.con (.int .i64 (-1))), none⟩])
  (.ret)) (.skip)))
  (.seq (.region [⟨some 11, .mov (.tmp 0), none⟩,
    ⟨some 12, .nilck (.tmp 11), none⟩,
    ⟨some 13, .faddr 0 (.tmp 12), none⟩,
    ⟨some 14, .load (some 3) (.tmp 13), none⟩,
    ⟨some 15, .pcall 18 [(.tmp 14)], none⟩,
    ⟨some 5, .mov (.tmp 15), none⟩])
  (.seq (.region [⟨some 16, .mov (.tmp 1), none⟩,
    ⟨some 17, .mnmx true (.tmp 16) (.con (.int .i64 0)), none⟩,
    ⟨some 1, .mov (.tmp 17), none⟩])
  (.seq (.seq (.region [⟨some 18, .mov (.tmp 1), none⟩,
    ⟨some 19, .mov (.tmp 5), none⟩,
    ⟨some 20, .bin .geq (.tmp 18) (.tmp 19), none⟩])
  (.cond (.tmp 20) (.region [⟨some 1, .mov (.con (.int .i64 0)), none⟩]) (.skip)))
  (.seq (.seq (.region [⟨some 21, .mov (.tmp 5), none⟩,
    ⟨some 22, .mov (.con (.int .i64 0)), none⟩])
  (.block 0 (.kill [4, 6, 7, 8, 9, 10, 11, 12, 13, 14, 15, 16, 17, 18, 19, 20, 23, 24, 25, 26, 27, 28, 29, 30, 31, 32, 33, 34, 35, 36, 37, 38, 39, 40, 41] (.loop l_chunk_Heap_Next_0))))
  (.seq (.region [⟨some 4, .mov (.con (.int .i64 (-1))), none⟩])
  (.ret))))))),
  [.tmp 4]⟩
theorem is_chunk_Heap_Next : IsFn Try.prog 9 c_chunk_Heap_Next := isFn_of [([], []), ([], []), ([], []), ([], []), ([], [4]), ([], []), ([], []), ([], []), ([], []), ([4, 6, 7, 8, 9, 10, 11, 12, 13, 14, 15, 16, 17, 18, 19, 20, 23, 24, 25, 26, 27, 28, 29, 30, 31, 32, 33, 34, 35, 36, 37, 38, 39, 40, 41], []), ([], []), ([0, 1, 5, 21, 22, 23], []), ([], [6, 9]), ([], []), ([], []), ([], []), ([], []), ([], []), ([], []), ([], []), ([], []), ([], [])] (by kernel_rfl)

/-- regency/regencyref19.New -/
def c_regencyref19_New : CFn := ⟨12, .seq (.region [⟨some 1, .box (.tmp 0), none⟩,
    ⟨some 2, .mov (.con (.nilp)), none⟩])
  (.seq (.seq (.region [⟨some 4, .load (some 3) (.tmp 1), none⟩]) (.seq (.region [⟨some 5, .pcall 23 [(.tmp 4)], none⟩]) (.both (.seq (.region [⟨some 3, .load (some 3) (.tmp 1), none⟩]) (.both (.seq (.region [⟨some 6, .mkslice 1 [.bool false] (.tmp 5) (.tmp 5), none⟩]) (.seq (.region [⟨some 7, .load (some 3) (.tmp 1), none⟩]) (.seq (.region [⟨some 8, .pcall 23 [(.tmp 7)], none⟩]) (.seq (.region [⟨some 9, .mkslice 16 [.str ⟨#[]⟩] (.tmp 8) (.tmp 8), none⟩]) (.seq (.region [⟨some 10, .build [.int .i64 0, .int .i64 0, .int .i64 0, .sl .ex [], .sl .ex []] [(0, 3, (.tmp 3)), (3, 1, (.tmp 6)), (4, 1, (.tmp 9))], none⟩]) (.seq (.region [⟨some 11, .box (.tmp 10), none⟩]) (.seq (.region [⟨some 2, .mov (.tmp 11), none⟩]) (.skip)))))))) (.seq (.region [⟨some 7, .load (some 3) (.tmp 1), none⟩]) (.seq (.region [⟨some 8, .pcall 23 [(.tmp 7)], none⟩]) (.both (.seq (.region [⟨some 6, .mkslice 1 [.bool false] (.tmp 5) (.tmp 5), none⟩]) (.seq (.region [⟨some 9, .mkslice 16 [.str ⟨#[]⟩] (.tmp 8) (.tmp 8), none⟩]) (.seq (.region [⟨some 10, .build [.int .i64 0, .int .i64 0, .int .i64 0, .sl .ex [], .sl .ex []] [(0, 3, (.tmp 3)), (3, 1, (.tmp 6)), (4, 1, (.tmp 9))], none⟩]) (.seq (.region [⟨some 11, .box (.tmp 10), none⟩]) (.seq (.region [⟨some 2, .mov (.tmp 11), none⟩]) (.skip)))))) (.seq (.region [⟨some 9, .mkslice 16 [.str ⟨#[]⟩] (.tmp 8) (.tmp 8), none⟩]) (.seq (.region [⟨some 6, .mkslice 1 [.bool false] (.tmp 5) (.tmp 5), none⟩]) (.seq (.region [⟨some 10, .build [.int .i64 0, .int .i64 0, .int .i64 0, .sl .ex [], .sl .ex []] [(0, 3, (.tmp 3)), (3, 1, (.tmp 6)), (4, 1, (.tmp 9))], none⟩]) (.seq (.region [⟨some 11, .box (.tmp 10), none⟩]) (.seq (.region [⟨some 2, .mov (.tmp 11), none⟩]) (.skip))))))))))) (.both (.seq (.region [⟨some 6, .mkslice 1 [.bool false] (.tmp 5) (.tmp 5), none⟩]) (.seq (.region [⟨some 7, .load (some 3) (.tmp 1), none⟩]) (.seq (.region [⟨some 8, .pcall 23 [(.tmp 7)], none⟩]) (.both (.seq (.region [⟨some 3, .load (some 3) (.tmp 1), none⟩]) (.seq (.region [⟨some 9, .mkslice 16 [.str ⟨#[]⟩] (.tmp 8) (.tmp 8), none⟩]) (.seq (.region [⟨some 10, .build [.int .i64 0, .int .i64 0, .int .i64 0, .sl .ex [], .sl .ex []] [(0, 3, (.tmp 3)), (3, 1, (.tmp 6)), (4, 1, (.tmp 9))], none⟩]) (.seq (.region [⟨some 11, .box (.tmp 10), none⟩]) (.seq (.region [⟨some 2, .mov (.tmp 11), none⟩]) (.skip)))))) (.seq (.region [⟨some 9, .mkslice 16 [.str ⟨#[]⟩] (.tmp 8) (.tmp 8), none⟩]) (.seq (.region [⟨some 3, .load (some 3) (.tmp 1), none⟩]) (.seq (.region [⟨some 10, .build [.int .i64 0, .int .i64 0, .int .i64 0, .sl .ex [], .sl .ex []] [(0, 3, (.tmp 3)), (3, 1, (.tmp 6)), (4, 1, (.tmp 9))], none⟩]) (.seq (.region [⟨some 11, .box (.tmp 10), none⟩]) (.seq (.region [⟨some 2, .mov (.tmp 11), none⟩]) (.skip)))))))))) (.seq (.region [⟨some 7, .load (some 3) (.tmp 1), none⟩]) (.seq (.region [⟨some 8, .pcall 23 [(.tmp 7)], none⟩]) (.both (.seq (.region [⟨some 3, .load (some 3) (.tmp 1), none⟩]) (.both (.seq (.region [⟨some 6, .mkslice 1 [.bool false] (.tmp 5) (.tmp 5), none⟩]) (.seq (.region [⟨some 9, .mkslice 16 [.str ⟨#[]⟩] (.tmp 8) (.tmp 8), none⟩]) (.seq (.region [⟨some 10, .build [.int .i64 0, .int .i64 0, .int .i64 0, .sl .ex [], .sl .ex []] [(0, 3, (.tmp 3)), (3, 1, (.tmp 6)), (4, 1, (.tmp 9))], none⟩]) (.seq (.region [⟨some 11, .box (.tmp 10), none⟩]) (.seq (.region [⟨some 2, .mov (.tmp 11), none⟩]) (.skip)))))) (.seq (.region [⟨some 9, .mkslice 16 [.str ⟨#[]⟩] (.tmp 8) (.tmp 8), none⟩]) (.seq (.region [⟨some 6, .mkslice 1 [.bool false] (.tmp 5) (.tmp 5), none⟩]) (.seq (.region [⟨some 10, .build [.int .i64 0, .int .i64 0, .int .i64 0, .sl .ex [], .sl .ex []] [(0, 3, (.tmp 3)), (3, 1, (.tmp 6)), (4, 1, (.tmp 9))], none⟩]) (.seq (.region [⟨some 11, .box (.tmp 10), none⟩]) (.seq (.region [⟨some 2, .mov (.tmp 11), none⟩]) (.skip)))))))) (.both (.seq (.region [⟨some 6, .mkslice 1 [.bool false] (.tmp 5) (.tmp 5), none⟩]) (.both (.seq (.region [⟨some 3, .load (some 3) (.tmp 1), none⟩]) (.seq (.region [⟨some 9, .mkslice 16 [.str ⟨#[]⟩] (.tmp 8) (.tmp 8), none⟩]) (.seq (.region [⟨some 10, .build [.int .i64 0, .int .i64 0, .int .i64 0, .sl .ex [], .sl .ex []] [(0, 3, (.tmp 3)), (3, 1, (.tmp 6)), (4, 1, (.tmp 9))], none⟩]) (.seq (.region [⟨some 11, .box (.tmp 10), none⟩]) (.seq (.region [⟨some 2, .mov (.tmp 11), none⟩]) (.skip)))))) (.seq (.region [⟨some 9, .mkslice 16 [.str ⟨#[]⟩] (.tmp 8) (.tmp 8), none⟩]) (.seq (.region [⟨some 3, .load (some 3) (.tmp 1), none⟩]) (.seq (.region [⟨some 10, .build [.int .i64 0, .int .i64 0, .int .i64 0, .sl .ex [], .sl .ex []] [(0, 3, (.tmp 3)), (3, 1, (.tmp 6)), (4, 1, (.tmp 9))], none⟩]) (.seq (.region [⟨some 11, .box (.tmp 10), none⟩]) (.seq (.region [⟨some 2, .mov (.tmp 11), none⟩]) (.skip)))))))) (.seq (.region [⟨some 9, .mkslice 16 [.str ⟨#[]⟩] (.tmp 8) (.tmp 8), none⟩]) (.both (.seq (.region [⟨some 3, .load (some 3) (.tmp 1), none⟩]) (.seq (.region [⟨some 6, .mkslice 1 [.bool false] (.tmp 5) (.tmp 5), none⟩]) (.seq (.region [⟨some 10, .build [.int .i64 0, .int .i64 0, .int .i64 0, .sl .ex [], .sl .ex []] [(0, 3, (.tmp 3)), (3, 1, (.tmp 6)), (4, 1, (.tmp 9))], none⟩]) (.seq (.region [⟨some 11, .box (.tmp 10), none⟩]) (.seq (.region [⟨some 2, .mov (.tmp 11), none⟩]) (.skip)))))) (.seq (.region [⟨some 6, .mkslice 1 [.bool false] (.tmp 5) (.tmp 5), none⟩]) (.seq (.region [⟨some 3, .load (some 3) (.tmp 1), none⟩]) (.seq (.region [⟨some 10, .build [.int .i64 0, .int .i64 0, .int .i64 0, .sl .ex [], .sl .ex []] [(0, 3, (.tmp 3)), (3, 1, (.tmp 6)), (4, 1, (.tmp 9))], none⟩]) (.seq (.region [⟨some 11, .box (.tmp 10), none⟩]) (.seq (.region [⟨some 2, .mov (.tmp 11), none⟩]) (.skip))))))))))))))))
  (.ret)),
  [.tmp 2]⟩
theorem is_regencyref19_New : IsFn Try.prog 10 c_regencyref19_New := isFn_of [([], []), ([], [2, 5]), ([], [])] (by kernel_rfl)

/-- regency/chunk.Cut -/
def c_chunk_Cut : CFn := ⟨37, .seq (.region [⟨some 6, .take (.con (.sl .ex [])), none⟩,
    ⟨some 7, .mov (.con (.bool false)), none⟩])
  (.seq (.region [⟨some 12, .mov (.tmp 0), none⟩,
    ⟨some 13, .mov (.tmp 1), none⟩,
    ⟨some 14, .pcall 17 [(.tmp 12), (.tmp 13)], none⟩,
    ⟨some 11, .mov (.tmp 14), none⟩,
    ⟨some 15, .extract 11 0, none⟩,
    ⟨some 16, .extract 11 1, none⟩,
    ⟨some 8, .alloc [.int .i64 0, .int .i64 0, .int .i64 0], none⟩,
    ⟨none, .store 3 (.tmp 8) (.tmp 15), none⟩,
    ⟨some 9, .mov (.tmp 16), none⟩])
  (.seq (.region [⟨some 17, .load (some 3) (.tmp 8), none⟩,
    ⟨some 18, .mov (.tmp 2), none⟩,
    ⟨some 19, .pcall 20 [(.tmp 17), (.tmp 18)], none⟩,
    ⟨some 10, .mov (.tmp 19), none⟩])
  (.seq (.seq (.region [⟨some 20, .mov (.tmp 9), none⟩,
    ⟨some 21, .un .not (.tmp 20), none⟩,
    ⟨some 22, .mov (.tmp 21), none⟩,
    ⟨some 23, .mov (.tmp 10), (some (22, false))⟩,
    ⟨some 24, .bin .lss (.tmp 23) (.con (.int .i64 0)), (some (22, false))⟩,
    ⟨some 25, .pick (.tmp 22) (.con (.bool true)) (.tmp 24), none⟩])
  (.cond (.tmp 25) (.seq (.region [⟨some 6, .take (.con (.sl .ex [])), none⟩,
    ⟨some 7, .mov (.con (.bool false)), none⟩])
  (.ret)) (.skip)))
  (.seq (.region [⟨some 26, .take (.tmp 0), none⟩,
    ⟨some 27, .mov (.tmp 2), none⟩,
    ⟨some 28, .mov (.tmp 1), none⟩,
    ⟨some 29, .bin .mul (.tmp 27) (.tmp 28), none⟩,
    ⟨some 30, .mov (.tmp 2), none⟩,
    ⟨some 31, .mov (.tmp 1), none⟩,
    ⟨some 32, .bin .mul (.tmp 30) (.tmp 31), none⟩,
    ⟨some 33, .mov (.tmp 10), none⟩,
    ⟨some 34, .bin .add (.tmp 32) (.tmp 33), none⟩,
    ⟨some 35, .slice (some 1) (.tmp 26) (some (.tmp 29)) (some (.tmp 34)) none, none⟩,
    ⟨some 36, .pcall 22 [(.tmp 35)], none⟩,
    ⟨some 6, .take (.tmp 36), none⟩,
    ⟨some 7, .mov (.con (.bool true)), none⟩])
  (.ret))))),
  [.tmp 6, .tmp 7]⟩
theorem is_chunk_Cut : IsFn Try.prog 11 c_chunk_Cut := isFn_of [([], [0]), ([], [2]), ([], [2]), ([], []), ([], [0]), ([], []), ([], [0, 10, 11]), ([], [])] (by kernel_rfl)

/-- (*regency/regencyref19.Heap).Put -/
def c_regencyref19_Heap_Put : CFn := ⟨53, .seq (.region [⟨some 6, .mov (.con (.int .i64 0)), none⟩])
  (.seq (.region [⟨some 8, .mov (.tmp 0), none⟩,
    ⟨some 9, .nilck (.tmp 8), none⟩,
    ⟨some 10, .faddr 0 (.tmp 9), none⟩,
    ⟨some 11, .load (some 3) (.tmp 10), none⟩,
    ⟨some 12, .mov (.tmp 1), none⟩,
    ⟨some 13, .pcall 24 [(.tmp 11), (.tmp 12)], none⟩,
    ⟨some 7, .mov (.tmp 13), none⟩])
  (.seq (.seq (.region [⟨some 14, .mov (.tmp 7), none⟩,
    ⟨some 15, .bin .lss (.tmp 14) (.con (.int .i64 0)), none⟩])
  (.cond (.tmp 15) (.seq (.region [⟨some 6, .mov (.con (.int .i64 37)), none⟩])
  (.ret)) (.skip)))
  (.seq (.seq (.region [⟨some 16, .mov (.tmp 2), none⟩,
    ⟨some 17, .lenl (.tmp 16), none⟩,
    ⟨some 18, .mov (.tmp 7), none⟩,
    ⟨some 19, .bin .neq (.tmp 17) (.tmp 18), none⟩])
  (.cond (.tmp 19) (.seq (.region [⟨some 6, .mov (.con (.int .i64 13)), none⟩])
  (.ret)) (.skip)))
  (.seq (.seq (.region [⟨some 20, .mov (.tmp 0), none⟩,
    ⟨some 21, .nilck (.tmp 20), none⟩,
    ⟨some 22, .faddr 3 (.tmp 21), none⟩,
    ⟨some 23, .load none (.tmp 22), none⟩,
    ⟨some 24, .mov (.tmp 1), none⟩,
    ⟨some 25, .iaddr 1 none (.tmp 23) (.tmp 24), none⟩,
    ⟨some 26, .load none (.tmp 25), none⟩,
    ⟨some 27, .mov (.tmp 26), none⟩,
    ⟨some 28, .mov (.tmp 0), (some (27, true))⟩,
    ⟨some 29, .nilck (.tmp 28), (some (27, true))⟩,
    ⟨some 30, .faddr 4 (.tmp 29), (some (27, true))⟩,
    ⟨some 31, .load none (.tmp 30), (some (27, true))⟩,
    ⟨some 32, .mov (.tmp 1), (some (27, true))⟩,
    ⟨some 33, .iaddr 1 none (.tmp 31) (.tmp 32), (some (27, true))⟩,
    ⟨some 34, .load none (.tmp 33), (some (27, true))⟩,
    ⟨some 35, .mov (.tmp 2), (some (27, true))⟩,
    ⟨some 36, .cBytesStr (.tmp 35), (some (27, true))⟩,
    ⟨some 37, .bin .neq (.tmp 34) (.tmp 36), (some (27, true))⟩,
    ⟨some 38, .pick (.tmp 27) (.tmp 37) (.con (.bool false)), none⟩])
  (.cond (.tmp 38) (.seq (.region [⟨some 6, .mov (.con (.int .i64 41)), none⟩])
  (.ret)) (.skip)))
  (.seq (.region [⟨some 39, .mov (.tmp 0), none⟩,
    ⟨some 40, .nilck (.tmp 39), none⟩,
    ⟨some 41, .faddr 3 (.tmp 40), none⟩,
    ⟨some 42, .load none (.tmp 41), none⟩,
    ⟨some 43, .mov (.tmp 1), none⟩,
    ⟨some 44, .iaddr 1 none (.tmp 42) (.tmp 43), none⟩,
    ⟨none, .store 1 (.tmp 44) (.con (.bool true)), none⟩])
  (.seq (.region [⟨some 45, .mov (.tmp 0), none⟩,
    ⟨some 46, .nilck (.tmp 45), none⟩,
    ⟨some 47, .faddr 4 (.tmp 46), none⟩,
    ⟨some 48, .load none (.tmp 47), none⟩,
    ⟨some 49, .mov (.tmp 1), none⟩,
    ⟨some 50, .mov (.tmp 2), none⟩,
    ⟨some 51, .cBytesStr (.tmp 50), none⟩,
    ⟨some 52, .iaddr 1 none (.tmp 48) (.tmp 49), none⟩,
    ⟨none, .store 1 (.tmp 52) (.tmp 51), none⟩])
  (.seq (.region [⟨some 6, .mov (.con (.int .i64 0)), none⟩])
  (.ret)))))))),
  [.tmp 6]⟩
theorem is_regencyref19_Heap_Put : IsFn Try.prog 12 c_regencyref19_Heap_Put := isFn_of [([], []), ([], [5]), ([], []), ([], []), ([], []), ([], []), ([], []), ([], []), ([], []), ([], []), ([], []), ([], []), ([], []), ([], []), ([], [])] (by kernel_rfl)

abbrev s_chunk_Heap_Bytes_0 (v0 v4 v17 v18 : AV) : List AV := [v0, undefA, .any, .any, v4, .any, .any, .any, .any, .any, .any, .any, .any, .any, .any, .any, .any, v17, v18, .any, .any, .any, .any, .any, .any, .any, .any, .any, .any, .any, undefA, undefA, undefA, undefA, undefA, undefA, undefA, undefA, undefA]
abbrev x_chunk_Heap_Bytes_1 (v0 v4 : AV) : List AV := [v0, undefA, .any, .any, v4, .any, .any, .any, .any, .any, .any, .any, .any, .any, .any, .any, .any, .any, .any, .any, .any, .any, .any, .any, .any, .any, .any, .any, .any, .any, undefA, undefA, undefA, undefA, undefA, undefA, undefA, undefA, undefA]
abbrev l_chunk_Heap_Bytes_0 : CC := .kill [2, 3, 5, 6, 7, 8, 9, 10, 11, 12, 13, 14, 15, 16, 19, 20, 21, 22, 23, 24, 25, 26, 27, 28, 29] (.seq (.region [⟨some 19, .bin .lss (.tmp 18) (.tmp 17), none⟩])
  (.seq (.cond (.tmp 19) (.skip) (.kill [17, 18, 19] (.exit 1)))
  (.seq (.block 2 (.seq (.region [⟨some 20, .mov (.tmp 18), none⟩,
    ⟨some 5, .mov (.tmp 20), none⟩])
  (.region [⟨some 21, .take (.tmp 4), none⟩,
    ⟨some 22, .mov (.tmp 0), none⟩,
    ⟨some 23, .nilck (.tmp 22), none⟩,
    ⟨some 24, .faddr 3 (.tmp 23), none⟩,
    ⟨some 25, .load none (.tmp 24), none⟩,
    ⟨some 26, .mov (.tmp 5), none⟩,
    ⟨some 27, .look (.int .i64) (.sl .ex []) false (.tmp 25) (.tmp 26), none⟩,
    ⟨some 28, .append 1 1 false (.tmp 21) (.tmp 27), none⟩,
    ⟨some 4, .take (.tmp 28), none⟩])))
  (.region [⟨some 29, .bin .add (.tmp 18) (.con (.int .i64 1)), none⟩,
    ⟨some 18, .mov (.tmp 29), none⟩]))))
/-- (*regency/chunk.Heap).Bytes -/
def c_chunk_Heap_Bytes : CFn := ⟨39, .seq (.region [⟨some 2, .take (.con (.sl .ex [])), none⟩,
    ⟨some 3, .mov (.con (.int .i64 0)), none⟩])
  (.seq (.block 0 (.seq (.region [⟨some 7, .mov (.tmp 0), none⟩,
    ⟨some 8, .isnil .ptr false (.tmp 7), none⟩,
    ⟨some 6, .mov (.tmp 8), none⟩])
  (.cond (.tmp 6) (.seq (.region [⟨some 2, .take (.con (.sl .ex [])), none⟩,
    ⟨some 3, .mov (.con (.int .i64 1)), none⟩])
  (.ret)) (.seq (.region [⟨some 10, .mov (.tmp 0), none⟩,
    ⟨some 11, .call 8 [(.tmp 10)], none⟩,
    ⟨some 12, .bin .gtr (.tmp 11) (.con (.int .i64 0)), none⟩,
    ⟨some 9, .mov (.tmp 12), none⟩])
  (.cond (.tmp 9) (.seq (.region [⟨some 2, .take (.con (.sl .ex [])), none⟩,
    ⟨some 3, .mov (.con (.int .i64 41)), none⟩])
  (.ret)) (.skip))))))
  (.seq (.region [⟨some 4, .take (.con (.sl .ex [])), none⟩])
  (.seq (.seq (.region [⟨some 13, .mov (.tmp 0), none⟩,
    ⟨some 14, .nilck (.tmp 13), none⟩,
    ⟨some 15, .faddr 0 (.tmp 14), none⟩,
    ⟨some 16, .load (some 3) (.tmp 15), none⟩,
    ⟨some 17, .pcall 18 [(.tmp 16)], none⟩,
    ⟨some 18, .mov (.con (.int .i64 0)), none⟩])
  (.block 1 (.kill [2, 3, 5, 6, 7, 8, 9, 10, 11, 12, 13, 14, 15, 16, 19, 20, 21, 22, 23, 24, 25, 26, 27, 28, 29] (.loop l_chunk_Heap_Bytes_0))))
  (.seq (.seq (.region [⟨some 30, .mov (.tmp 4), none⟩,
    ⟨some 31, .pcall 25 [(.tmp 30)], none⟩,
    ⟨some 32, .mov (.tmp 0), none⟩,
    ⟨some 33, .nilck (.tmp 32), none⟩,
    ⟨some 34, .faddr 0 (.tmp 33), none⟩,
    ⟨some 35, .faddr 2 (.tmp 34), none⟩,
    ⟨some 36, .load none (.tmp 35), none⟩,
    ⟨some 37, .bin .neq (.tmp 31) (.tmp 36), none⟩])
  (.cond (.tmp 37) (.seq (.region [⟨some 2, .take (.con (.sl .ex [])), none⟩,
    ⟨some 3, .mov (.con (.int .i64 12)), none⟩])
  (.ret)) (.skip)))
  (.seq (.region [⟨some 38, .take (.tmp 4), none⟩,
    ⟨some 2, .take (.tmp 38), none⟩,
    ⟨some 3, .mov (.con (.int .i64 0)), none⟩])
  (.ret)))))),
  [.tmp 2, .tmp 3]⟩
theorem is_chunk_Heap_Bytes : IsFn Try.prog 13 c_chunk_Heap_Bytes := isFn_of [([], [0]), ([], []), ([], [0]), ([], []), ([], []), ([], [0]), ([], []), ([], [0]), ([], [4]), ([2, 3, 5, 6, 7, 8, 9, 10, 11, 12, 13, 14, 15, 16, 19, 20, 21, 22, 23, 24, 25, 26, 27, 28, 29], []), ([], []), ([17, 18, 19], []), ([], []), ([], [0, 8]), ([], []), ([], [1]), ([], [0]), ([], []), ([], [0, 1]), ([], [])] (by kernel_rfl)

abbrev s_regencyref19_Heap_Bytes_0 (v0 v4 v10 v11 v12 : AV) : List AV := [v0, undefA, .any, .any, v4, .any, .any, .any, .any, .any, v10, v11, v12, .any, .any, .any, .any, .any, .any, .any, .any, .any, .any, .any, .any, .any, .any, .any, .any, undefA, undefA, undefA, undefA, undefA, undefA, undefA, undefA, undefA, undefA]
abbrev x_regencyref19_Heap_Bytes_0 (v0 v4 : AV) : List AV := [v0, undefA, .any, .any, v4, .any, .any, .any, .any, .any, .any, .any, .any, .any, .any, .any, .any, .any, .any, .any, .any, .any, .any, .any, .any, .any, .any, .any, .any, undefA, undefA, undefA, undefA, undefA, undefA, undefA, undefA, undefA, undefA]
abbrev l_regencyref19_Heap_Bytes_0 : CC := .kill [2, 3, 5, 6, 7, 8, 9, 13, 14, 15, 16, 17, 18, 19, 20, 21, 22, 23, 24, 25, 26, 27, 28] (.seq (.region [⟨some 13, .bin .lss (.tmp 12) (.tmp 11), none⟩])
  (.seq (.cond (.tmp 13) (.skip) (.kill [10, 11, 12, 13] (.exit 0)))
  (.seq (.block 1 (.seq (.region [⟨some 14, .mov (.tmp 12), none⟩,
    ⟨some 15, .iaddr 1 none (.tmp 10) (.tmp 12), none⟩,
    ⟨some 16, .load none (.tmp 15), none⟩,
    ⟨some 5, .mov (.tmp 14), none⟩,
    ⟨some 6, .mov (.tmp 16), none⟩])
  (.seq (.seq (.region [⟨some 17, .mov (.tmp 6), none⟩,
    ⟨some 18, .un .not (.tmp 17), none⟩])
  (.cond (.tmp 18) (.seq (.region [⟨some 2, .mov (.con (.str ⟨#[]⟩)), none⟩,
    ⟨some 3, .mov (.con (.int .i64 41)), none⟩])
  (.ret)) (.skip)))
  (.region [⟨some 19, .mov (.tmp 4), none⟩,
    ⟨some 20, .mov (.tmp 0), none⟩,
    ⟨some 21, .nilck (.tmp 20), none⟩,
    ⟨some 22, .faddr 4 (.tmp 21), none⟩,
    ⟨some 23, .load none (.tmp 22), none⟩,
    ⟨some 24, .mov (.tmp 5), none⟩,
    ⟨some 25, .iaddr 1 none (.tmp 23) (.tmp 24), none⟩,
    ⟨some 26, .load none (.tmp 25), none⟩,
    ⟨some 27, .bin .add (.tmp 19) (.tmp 26), none⟩,
    ⟨some 4, .mov (.tmp 27), none⟩]))))
  (.region [⟨some 28, .bin .add (.tmp 12) (.con (.int .i64 1)), none⟩,
    ⟨some 12, .mov (.tmp 28), none⟩]))))
/-- (*regency/regencyref19.Heap).Bytes -/
def c_regencyref19_Heap_Bytes : CFn := ⟨39, .seq (.region [⟨some 2, .mov (.con (.str ⟨#[]⟩)), none⟩,
    ⟨some 3, .mov (.con (.int .i64 0)), none⟩])
  (.seq (.region [⟨some 4, .mov (.con (.str ⟨#[]⟩)), none⟩])
  (.seq (.seq (.region [⟨some 7, .mov (.tmp 0), none⟩,
    ⟨some 8, .nilck (.tmp 7), none⟩,
    ⟨some 9, .faddr 3 (.tmp 8), none⟩,
    ⟨some 10, .load none (.tmp 9), none⟩,
    ⟨some 11, .lenl (.tmp 10), none⟩,
    ⟨some 12, .mov (.con (.int .i64 0)), none⟩])
  (.block 0 (.kill [2, 3, 5, 6, 7, 8, 9, 13, 14, 15, 16, 17, 18, 19, 20, 21, 22, 23, 24, 25, 26, 27, 28] (.loop l_regencyref19_Heap_Bytes_0))))
  (.seq (.seq (.region [⟨some 29, .mov (.tmp 4), none⟩,
    ⟨some 30, .cStrBytes (.tmp 29), none⟩,
    ⟨some 31, .pcall 26 [(.tmp 30)], none⟩,
    ⟨some 32, .mov (.tmp 0), none⟩,
    ⟨some 33, .nilck (.tmp 32), none⟩,
    ⟨some 34, .faddr 0 (.tmp 33), none⟩,
    ⟨some 35, .faddr 2 (.tmp 34), none⟩,
    ⟨some 36, .load none (.tmp 35), none⟩,
    ⟨some 37, .bin .neq (.tmp 31) (.tmp 36), none⟩])
  (.cond (.tmp 37) (.seq (.region [⟨some 2, .mov (.con (.str ⟨#[]⟩)), none⟩,
    ⟨some 3, .mov (.con (.int .i64 12)), none⟩])
  (.ret)) (.skip)))
  (.seq (.region [⟨some 38, .mov (.tmp 4), none⟩,
    ⟨some 2, .mov (.tmp 38), none⟩,
    ⟨some 3, .mov (.con (.int .i64 0)), none⟩])
  (.ret))))),
  [.tmp 2, .tmp 3]⟩
theorem is_regencyref19_Heap_Bytes : IsFn Try.prog 14 c_regencyref19_Heap_Bytes := isFn_of [([], []), ([], []), ([], []), ([2, 3, 5, 6, 7, 8, 9, 13, 14, 15, 16, 17, 18, 19, 20, 21, 22, 23, 24, 25, 26, 27, 28], []), ([], []), ([10, 11, 12, 13], []), ([], []), ([], []), ([], []), ([], []), ([], []), ([], []), ([], [2]), ([], []), ([], []), ([], []), ([], [])] (by kernel_rfl)

abbrev s_regencyref19_Heap_Missing_0 (v3 v9 v10 v11 : AV) : List AV := [.any, undefA, .any, v3, undefA, .any, .any, .any, .any, v9, v10, v11, .any, .any, .any, .any, .any, .any, .any, .any, undefA]
abbrev x_regencyref19_Heap_Missing_0 (v3 : AV) : List AV := [.any, undefA, .any, v3, undefA, .any, .any, .any, .any, .any, .any, .any, .any, .any, .any, .any, .any, .any, .any, .any, undefA]
abbrev l_regencyref19_Heap_Missing_0 : CC := .kill [0, 2, 5, 6, 7, 8, 12, 13, 14, 15, 16, 17, 18, 19] (.seq (.region [⟨some 12, .bin .lss (.tmp 11) (.tmp 10), none⟩])
  (.seq (.cond (.tmp 12) (.skip) (.kill [9, 10, 11, 12] (.exit 0)))
  (.seq (.block 1 (.seq (.region [⟨some 13, .iaddr 1 none (.tmp 9) (.tmp 11), none⟩,
    ⟨some 14, .load none (.tmp 13), none⟩,
    ⟨some 5, .mov (.tmp 14), none⟩])
  (.seq (.region [⟨some 15, .mov (.tmp 5), none⟩,
    ⟨some 16, .un .not (.tmp 15), none⟩])
  (.cond (.tmp 16) (.region [⟨some 17, .mov (.tmp 3), none⟩,
    ⟨some 18, .bin .add (.tmp 17) (.con (.int .i64 1)), none⟩,
    ⟨some 3, .mov (.tmp 18), none⟩]) (.skip)))))
  (.region [⟨some 19, .bin .add (.tmp 11) (.con (.int .i64 1)), none⟩,
    ⟨some 11, .mov (.tmp 19), none⟩]))))
/-- (*regency/regencyref19.Heap).Missing -/
def c_regencyref19_Heap_Missing : CFn := ⟨21, .seq (.region [⟨some 2, .mov (.con (.int .i64 0)), none⟩])
  (.seq (.region [⟨some 3, .mov (.con (.int .i64 0)), none⟩])
  (.seq (.seq (.region [⟨some 6, .mov (.tmp 0), none⟩,
    ⟨some 7, .nilck (.tmp 6), none⟩,
    ⟨some 8, .faddr 3 (.tmp 7), none⟩,
    ⟨some 9, .load none (.tmp 8), none⟩,
    ⟨some 10, .lenl (.tmp 9), none⟩,
    ⟨some 11, .mov (.con (.int .i64 0)), none⟩])
  (.block 0 (.kill [0, 2, 5, 6, 7, 8, 12, 13, 14, 15, 16, 17, 18, 19] (.loop l_regencyref19_Heap_Missing_0))))
  (.seq (.region [⟨some 20, .mov (.tmp 3), none⟩,
    ⟨some 2, .mov (.tmp 20), none⟩])
  (.ret)))),
  [.tmp 2]⟩
theorem is_regencyref19_Heap_Missing : IsFn Try.prog 15 c_regencyref19_Heap_Missing := isFn_of [([], []), ([], []), ([], []), ([0, 2, 5, 6, 7, 8, 12, 13, 14, 15, 16, 17, 18, 19], []), ([], []), ([9, 10, 11, 12], []), ([], []), ([], []), ([], []), ([], []), ([], []), ([], [])] (by kernel_rfl)

abbrev s_regencyref19_Heap_Next_0 (v0 v1 v11 v12 : AV) : List AV := [v0, v1, undefA, undefA, .any, .any, undefA, .any, .any, .any, .any, v11, v12, .any, .any, .any, .any, .any, .any, .any, .any, .any, .any, .any, .any, .any, .any, .any, .any, .any, undefA, undefA, undefA, undefA, undefA, undefA, undefA, undefA, undefA, undefA, undefA, undefA, undefA, undefA, undefA, undefA, undefA, undefA]
abbrev s_regencyref19_Heap_Next_1 (v0 v34 v35 : AV) : List AV := [v0, .any, undefA, undefA, .any, .any, .any, .any, .any, .any, .any, .any, .any, .any, .any, .any, .any, .any, .any, .any, .any, .any, .any, .any, .any, .any, .any, .any, .any, .any, .any, .any, .any, .any, v34, v35, .any, .any, .any, .any, .any, .any, .any, .any, .any, .any, .any, .any]
abbrev x_regencyref19_Heap_Next_0 (v0 : AV) : List AV := [v0, .any, undefA, undefA, .any, .any, undefA, .any, .any, .any, .any, .any, .any, .any, .any, .any, .any, .any, .any, .any, .any, .any, .any, .any, .any, .any, .any, .any, .any, .any, undefA, undefA, undefA, undefA, undefA, undefA, undefA, undefA, undefA, undefA, undefA, undefA, undefA, undefA, undefA, undefA, undefA, undefA]
abbrev x_regencyref19_Heap_Next_2  : List AV := [.any, .any, undefA, undefA, .any, .any, .any, .any, .any, .any, .any, .any, .any, .any, .any, .any, .any, .any, .any, .any, .any, .any, .any, .any, .any, .any, .any, .any, .any, .any, .any, .any, .any, .any, .any, .any, .any, .any, .any, .any, .any, .any, .any, .any, .any, .any, .any, .any]
abbrev l_regencyref19_Heap_Next_1 : CC := .kill [4, 6, 30, 31, 32, 33, 36, 37, 38, 39, 40, 41, 42, 43, 44, 45, 46, 47] (.seq (.region [⟨some 36, .bin .lss (.tmp 35) (.tmp 34), none⟩])
  (.seq (.cond (.tmp 36) (.skip) (.kill [0, 34, 35, 36] (.exit 2)))
  (.seq (.block 3 (.seq (.region [⟨some 37, .mov (.tmp 35), none⟩,
    ⟨some 6, .mov (.tmp 37), none⟩])
  (.seq (.region [⟨some 38, .mov (.tmp 0), none⟩,
    ⟨some 39, .nilck (.tmp 38), none⟩,
    ⟨some 40, .faddr 3 (.tmp 39), none⟩,
    ⟨some 41, .load none (.tmp 40), none⟩,
    ⟨some 42, .mov (.tmp 6), none⟩,
    ⟨some 43, .iaddr 1 none (.tmp 41) (.tmp 42), none⟩,
    ⟨some 44, .load none (.tmp 43), none⟩,
    ⟨some 45, .un .not (.tmp 44), none⟩])
  (.cond (.tmp 45) (.seq (.region [⟨some 46, .mov (.tmp 6), none⟩,
    ⟨some 4, .mov (.tmp 46), none⟩])
  (.ret)) (.skip)))))
  (.region [⟨some 47, .bin .add (.tmp 35) (.con (.int .i64 1)), none⟩,
    ⟨some 35, .mov (.tmp 47), none⟩]))))
abbrev l_regencyref19_Heap_Next_0 : CC := .kill [4, 5, 7, 8, 9, 10, 13, 14, 15, 16, 17, 18, 19, 20, 21, 22, 23, 24, 25, 26, 27, 28, 29] (.seq (.region [⟨some 13, .bin .lss (.tmp 12) (.tmp 11), none⟩])
  (.seq (.cond (.tmp 13) (.skip) (.kill [1, 11, 12, 13] (.exit 0)))
  (.seq (.block 1 (.seq (.region [⟨some 14, .mov (.tmp 12), none⟩,
    ⟨some 5, .mov (.tmp 14), none⟩])
  (.seq (.region [⟨some 15, .mov (.tmp 5), none⟩,
    ⟨some 16, .mov (.tmp 1), none⟩,
    ⟨some 17, .bin .geq (.tmp 15) (.tmp 16), none⟩,
    ⟨some 18, .mov (.tmp 17), none⟩,
    ⟨some 19, .mov (.tmp 0), (some (18, true))⟩,
    ⟨some 20, .nilck (.tmp 19), (some (18, true))⟩,
    ⟨some 21, .faddr 3 (.tmp 20), (some (18, true))⟩,
    ⟨some 22, .load none (.tmp 21), (some (18, true))⟩,
    ⟨some 23, .mov (.tmp 5), (some (18, true))⟩,
    ⟨some 24, .iaddr 1 none (.tmp 22) (.tmp 23), (some (18, true))⟩,
    ⟨some 25, .load none (.tmp 24), (some (18, true))⟩,
    ⟨some 26, .un .not (.tmp 25), (some (18, true))⟩,
    ⟨some 27, .pick (.tmp 18) (.tmp 26) (.con (.bool false)), none⟩])
  (.cond (.tmp 27) (.seq (.region [⟨some 28, .mov (.tmp 5), none⟩,
    ⟨some 4, .mov (.tmp 28), none⟩])
  (.ret)) (.skip)))))
  (.region [⟨some 29, .bin .add (.tmp 12) (.con (.int .i64 1)), none⟩,
    ⟨some 12, .mov (.tmp 29), none⟩]))))
/-- (*regency/regencyref19.Heap).Next -/
def c_regencyref19_Heap_Next : CFn := ⟨48, .seq (.region [⟨some 4, .mov (.con (.int .i64 0)), none⟩])
  (.seq (.seq (.region [⟨some 7, .mov (.tmp 0), none⟩,
    ⟨some 8, .nilck (.tmp 7), none⟩,
    ⟨some 9, .faddr 3 (.tmp 8), none⟩,
    ⟨some 10, .load none (.tmp 9), none⟩,
    ⟨some 11, .lenl (.tmp 10), none⟩,
    ⟨some 12, .mov (.con (.int .i64 0)), none⟩])
  (.block 0 (.kill [4, 5, 7, 8, 9, 10, 13, 14, 15, 16, 17, 18, 19, 20, 21, 22, 23, 24, 25, 26, 27, 28, 29] (.loop l_regencyref19_Heap_Next_0))))
  (.seq (.seq (.region [⟨some 30, .mov (.tmp 0), none⟩,
    ⟨some 31, .nilck (.tmp 30), none⟩,
    ⟨some 32, .faddr 3 (.tmp 31), none⟩,
    ⟨some 33, .load none (.tmp 32), none⟩,
    ⟨some 34, .lenl (.tmp 33), none⟩,
    ⟨some 35, .mov (.con (.int .i64 0)), none⟩])
  (.block 2 (.kill [4, 6, 30, 31, 32, 33, 36, 37, 38, 39, 40, 41, 42, 43, 44, 45, 46, 47] (.loop l_regencyref19_Heap_Next_1))))
  (.seq (.region [⟨some 4, .mov (.con (.int .i64 (-1))), none⟩])
  (.ret)))),
  [.tmp 4]⟩
theorem is_regencyref19_Heap_Next : IsFn Try.prog 16 c_regencyref19_Heap_Next := isFn_of [([], []), ([], []), ([4, 5, 7, 8, 9, 10, 13, 14, 15, 16, 17, 18, 19, 20, 21, 22, 23, 24, 25, 26, 27, 28, 29], []), ([], []), ([1, 11, 12, 13], []), ([], []), ([], []), ([], []), ([], []), ([], []), ([], []), ([4, 6, 30, 31, 32, 33, 36, 37, 38, 39, 40, 41, 42, 43, 44, 45, 46, 47], []), ([], []), ([0, 34, 35, 36], []), ([], []), ([], []), ([], []), ([], []), ([], []), ([], []), ([], [])] (by kernel_rfl)

/-- regency/chunk.HeadOf -/
def c_chunk_HeadOf : CFn := ⟨21, .seq (.region [⟨some 4, .alloc [.int .i64 0, .int .i64 0, .int .i64 0], none⟩,
    ⟨some 5, .mov (.con (.bool false)), none⟩])
  (.seq (.seq (.region [⟨some 6, .mov (.tmp 1), none⟩,
    ⟨some 7, .pcall 27 [(.tmp 6)], none⟩,
    ⟨some 8, .un .not (.tmp 7), none⟩,
    ⟨some 9, .mov (.tmp 8), none⟩,
    ⟨some 10, .mov (.tmp 0), (some (9, false))⟩,
    ⟨some 11, .lenl (.tmp 10), (some (9, false))⟩,
    ⟨some 12, .bin .gtr (.tmp 11) (.con (.int .i64 1073741824)), (some (9, false))⟩,
    ⟨some 13, .pick (.tmp 9) (.con (.bool true)) (.tmp 12), none⟩])
  (.cond (.tmp 13) (.seq (.region [⟨some 14, .build [.int .i64 0, .int .i64 0, .int .i64 0] [], none⟩,
    ⟨none, .store 3 (.tmp 4) (.tmp 14), none⟩,
    ⟨some 5, .mov (.con (.bool false)), none⟩])
  (.ret)) (.skip)))
  (.seq (.region [⟨some 15, .mov (.tmp 0), none⟩,
    ⟨some 16, .lenl (.tmp 15), none⟩,
    ⟨some 17, .mov (.tmp 1), none⟩,
    ⟨some 18, .take (.tmp 0), none⟩,
    ⟨some 19, .pcall 25 [(.tmp 18)], none⟩,
    ⟨some 20, .build [.int .i64 0, .int .i64 0, .int .i64 0] [(0, 1, (.tmp 16)), (1, 1, (.tmp 17)), (2, 1, (.tmp 19))], none⟩,
    ⟨none, .store 3 (.tmp 4) (.tmp 20), none⟩,
    ⟨some 5, .mov (.con (.bool true)), none⟩])
  (.ret))),
  [.cell 4 (some 3), .tmp 5]⟩
theorem is_chunk_HeadOf : IsFn Try.prog 17 c_chunk_HeadOf := isFn_of [([], []), ([], [1]), ([], []), ([], []), ([], [3, 4]), ([], [])] (by kernel_rfl)

/-- regency/chunk.Count -/
def c_chunk_Count : CFn := ⟨15, .seq (.region [⟨some 1, .box (.tmp 0), none⟩,
    ⟨some 2, .mov (.con (.int .i64 0)), none⟩])
  (.seq (.seq (.region [⟨some 3, .load (some 3) (.tmp 1), none⟩,
    ⟨some 4, .pcall 19 [(.tmp 3)], none⟩,
    ⟨some 5, .un .not (.tmp 4), none⟩])
  (.cond (.tmp 5) (.seq (.region [⟨some 2, .mov (.con (.int .i64 0)), none⟩])
  (.ret)) (.skip)))
  (.seq (.region [⟨some 6, .faddr 0 (.tmp 1), none⟩,
    ⟨some 7, .load none (.tmp 6), none⟩,
    ⟨some 8, .faddr 1 (.tmp 1), none⟩,
    ⟨some 9, .load none (.tmp 8), none⟩,
    ⟨some 10, .bin .add (.tmp 7) (.tmp 9), none⟩,
    ⟨some 11, .bin .sub (.tmp 10) (.con (.int .i64 1)), none⟩,
    ⟨some 12, .faddr 1 (.tmp 1), none⟩,
    ⟨some 13, .load none (.tmp 12), none⟩,
    ⟨some 14, .bin .quo (.tmp 11) (.tmp 13), none⟩,
    ⟨some 2, .mov (.tmp 14), none⟩])
  (.ret))),
  [.tmp 2]⟩
theorem is_chunk_Count : IsFn Try.prog 18 c_chunk_Count := isFn_of [([], []), ([], [1]), ([], []), ([], []), ([], []), ([], [])] (by kernel_rfl)

/-- regency/chunk.Right -/
def c_chunk_Right : CFn := ⟨26, .seq (.region [⟨some 1, .box (.tmp 0), none⟩,
    ⟨some 2, .mov (.con (.bool false)), none⟩])
  (.seq (.region [⟨some 3, .faddr 0 (.tmp 1), none⟩,
    ⟨some 4, .load none (.tmp 3), none⟩,
    ⟨some 5, .bin .geq (.tmp 4) (.con (.int .i64 0)), none⟩,
    ⟨some 6, .mov (.tmp 5), none⟩,
    ⟨some 7, .faddr 0 (.tmp 1), (some (6, true))⟩,
    ⟨some 8, .load none (.tmp 7), (some (6, true))⟩,
    ⟨some 9, .bin .leq (.tmp 8) (.con (.int .i64 1073741824)), (some (6, true))⟩,
    ⟨some 10, .pick (.tmp 6) (.tmp 9) (.con (.bool false)), none⟩,
    ⟨some 11, .mov (.tmp 10), none⟩,
    ⟨some 12, .faddr 1 (.tmp 1), (some (11, true))⟩,
    ⟨some 13, .load none (.tmp 12), (some (11, true))⟩,
    ⟨some 14, .pcall 27 [(.tmp 13)], (some (11, true))⟩,
    ⟨some 15, .pick (.tmp 11) (.tmp 14) (.con (.bool false)), none⟩,
    ⟨some 16, .mov (.tmp 15), none⟩,
    ⟨some 17, .faddr 2 (.tmp 1), (some (16, true))⟩,
    ⟨some 18, .load none (.tmp 17), (some (16, true))⟩,
    ⟨some 19, .bin .geq (.tmp 18) (.con (.int .i64 0)), (some (16, true))⟩,
    ⟨some 20, .pick (.tmp 16) (.tmp 19) (.con (.bool false)), none⟩,
    ⟨some 21, .mov (.tmp 20), none⟩,
    ⟨some 22, .faddr 2 (.tmp 1), (some (21, true))⟩,
    ⟨some 23, .load none (.tmp 22), (some (21, true))⟩,
    ⟨some 24, .bin .leq (.tmp 23) (.con (.int .i64 4611686018427387903)), (some (21, true))⟩,
    ⟨some 25, .pick (.tmp 21) (.tmp 24) (.con (.bool false)), none⟩,
    ⟨some 2, .mov (.tmp 25), none⟩])
  (.ret)),
  [.tmp 2]⟩
theorem is_chunk_Right : IsFn Try.prog 19 c_chunk_Right := isFn_of [([], []), ([], [11]), ([], [])] (by kernel_rfl)

/-- regency/chunk.Length -/
def c_chunk_Length : CFn := ⟨23, .seq (.region [⟨some 2, .box (.tmp 0), none⟩,
    ⟨some 4, .mov (.con (.int .i64 0)), none⟩])
  (.seq (.seq (.region [⟨some 5, .mov (.tmp 1), none⟩,
    ⟨some 6, .bin .lss (.tmp 5) (.con (.int .i64 0)), none⟩,
    ⟨some 7, .mov (.tmp 6), none⟩,
    ⟨some 8, .mov (.tmp 1), (some (7, false))⟩,
    ⟨some 9, .load (some 3) (.tmp 2), (some (7, false))⟩,
    ⟨some 10, .pcall 18 [(.tmp 9)], (some (7, false))⟩,
    ⟨some 11, .bin .geq (.tmp 8) (.tmp 10), (some (7, false))⟩,
    ⟨some 12, .pick (.tmp 7) (.con (.bool true)) (.tmp 11), none⟩])
  (.cond (.tmp 12) (.seq (.region [⟨some 4, .mov (.con (.int .i64 (-1))), none⟩])
  (.ret)) (.skip)))
  (.seq (.region [⟨some 13, .faddr 1 (.tmp 2), none⟩,
    ⟨some 14, .load none (.tmp 13), none⟩,
    ⟨some 15, .faddr 0 (.tmp 2), none⟩,
    ⟨some 16, .load none (.tmp 15), none⟩,
    ⟨some 17, .mov (.tmp 1), none⟩,
    ⟨some 18, .faddr 1 (.tmp 2), none⟩,
    ⟨some 19, .load none (.tmp 18), none⟩,
    ⟨some 20, .bin .mul (.tmp 17) (.tmp 19), none⟩,
    ⟨some 21, .bin .sub (.tmp 16) (.tmp 20), none⟩,
    ⟨some 22, .mnmx false (.tmp 14) (.tmp 21), none⟩,
    ⟨some 4, .mov (.tmp 22), none⟩])
  (.ret))),
  [.tmp 4]⟩
theorem is_chunk_Length : IsFn Try.prog 20 c_chunk_Length := isFn_of [([], []), ([], [5]), ([], []), ([], []), ([], []), ([], [])] (by kernel_rfl)

/-- bytes.Equal -/
def c_bytes_Equal : CFn := ⟨10, .seq (.region [⟨some 4, .mov (.con (.bool false)), none⟩])
  (.seq (.region [⟨some 5, .take (.tmp 0), none⟩,
    ⟨some 6, .cBytesStr (.tmp 5), none⟩,
    ⟨some 7, .take (.tmp 1), none⟩,
    ⟨some 8, .cBytesStr (.tmp 7), none⟩,
    ⟨some 9, .bin .eql (.tmp 6) (.tmp 8), none⟩,
    ⟨some 4, .mov (.tmp 9), none⟩])
  (.ret)),
  [.tmp 4]⟩
theorem is_bytes_Equal : IsFn Try.prog 21 c_bytes_Equal := isFn_of [([], []), ([], [0, 2]), ([], [])] (by kernel_rfl)

/-- slices.Clone[[]byte,byte] -/
def p_slices_Clone_byte_byte := cloneP 1 1
theorem ok_slices_Clone_byte_byte : OkDef Try.prog 22 (.prim p_slices_Clone_byte_byte) := clone_ok (hs0 := [([], [0])]) (hs2 := [([], [0])]) (hs4 := [([], [1, 3])]) (hs1 := []) (hs3 := []) (hs5 := []) Try.func22 rfl rfl (by kernel_rfl) rfl rfl rfl rfl rfl rfl rfl Try.underlying22 (by kernel_rfl) (by kernel_rfl) (by kernel_rfl)

/-- regency/regencyref19.Count -/
def c_regencyref19_Count : CFn := ⟨22, .seq (.region [⟨some 1, .box (.tmp 0), none⟩,
    ⟨some 2, .mov (.con (.int .i64 0)), none⟩])
  (.seq (.seq (.region [⟨some 4, .load (some 3) (.tmp 1), none⟩,
    ⟨some 5, .pcall 6 [(.tmp 4)], none⟩,
    ⟨some 6, .un .not (.tmp 5), none⟩])
  (.cond (.tmp 6) (.seq (.region [⟨some 2, .mov (.con (.int .i64 0)), none⟩])
  (.ret)) (.skip)))
  (.seq (.region [⟨some 7, .faddr 0 (.tmp 1), none⟩,
    ⟨some 8, .load none (.tmp 7), none⟩,
    ⟨some 9, .faddr 1 (.tmp 1), none⟩,
    ⟨some 10, .load none (.tmp 9), none⟩,
    ⟨some 11, .bin .quo (.tmp 8) (.tmp 10), none⟩,
    ⟨some 3, .mov (.tmp 11), none⟩])
  (.seq (.seq (.region [⟨some 12, .mov (.tmp 3), none⟩,
    ⟨some 13, .faddr 1 (.tmp 1), none⟩,
    ⟨some 14, .load none (.tmp 13), none⟩,
    ⟨some 15, .bin .mul (.tmp 12) (.tmp 14), none⟩,
    ⟨some 16, .faddr 0 (.tmp 1), none⟩,
    ⟨some 17, .load none (.tmp 16), none⟩,
    ⟨some 18, .bin .lss (.tmp 15) (.tmp 17), none⟩])
  (.cond (.tmp 18) (.region [⟨some 19, .mov (.tmp 3), none⟩,
    ⟨some 20, .bin .add (.tmp 19) (.con (.int .i64 1)), none⟩,
    ⟨some 3, .mov (.tmp 20), none⟩]) (.skip)))
  (.seq (.region [⟨some 21, .mov (.tmp 3), none⟩,
    ⟨some 2, .mov (.tmp 21), none⟩])
  (.ret))))),
  [.tmp 2]⟩
theorem is_regencyref19_Count : IsFn Try.prog 23 c_regencyref19_Count := isFn_of [([], []), ([], [1]), ([], []), ([], []), ([], []), ([], []), ([], []), ([], []), ([], [])] (by kernel_rfl)

/-- regency/regencyref19.Length -/
def c_regencyref19_Length : CFn := ⟨29, .seq (.region [⟨some 2, .box (.tmp 0), none⟩,
    ⟨some 4, .mov (.con (.int .i64 0)), none⟩])
  (.seq (.region [⟨some 6, .load (some 3) (.tmp 2), none⟩,
    ⟨some 7, .pcall 23 [(.tmp 6)], none⟩,
    ⟨some 5, .mov (.tmp 7), none⟩])
  (.seq (.seq (.region [⟨some 8, .mov (.tmp 1), none⟩,
    ⟨some 9, .bin .lss (.tmp 8) (.con (.int .i64 0)), none⟩,
    ⟨some 10, .mov (.tmp 9), none⟩,
    ⟨some 11, .mov (.tmp 1), (some (10, false))⟩,
    ⟨some 12, .mov (.tmp 5), (some (10, false))⟩,
    ⟨some 13, .bin .geq (.tmp 11) (.tmp 12), (some (10, false))⟩,
    ⟨some 14, .pick (.tmp 10) (.con (.bool true)) (.tmp 13), none⟩])
  (.cond (.tmp 14) (.seq (.region [⟨some 4, .mov (.con (.int .i64 (-1))), none⟩])
  (.ret)) (.skip)))
  (.seq (.seq (.region [⟨some 15, .mov (.tmp 1), none⟩,
    ⟨some 16, .mov (.tmp 5), none⟩,
    ⟨some 17, .bin .sub (.tmp 16) (.con (.int .i64 1)), none⟩,
    ⟨some 18, .bin .lss (.tmp 15) (.tmp 17), none⟩])
  (.cond (.tmp 18) (.seq (.region [⟨some 19, .faddr 1 (.tmp 2), none⟩,
    ⟨some 20, .load none (.tmp 19), none⟩,
    ⟨some 4, .mov (.tmp 20), none⟩])
  (.ret)) (.skip)))
  (.seq (.region [⟨some 21, .faddr 0 (.tmp 2), none⟩,
    ⟨some 22, .load none (.tmp 21), none⟩,
    ⟨some 23, .mov (.tmp 5), none⟩,
    ⟨some 24, .bin .sub (.tmp 23) (.con (.int .i64 1)), none⟩,
    ⟨some 25, .faddr 1 (.tmp 2), none⟩,
    ⟨some 26, .load none (.tmp 25), none⟩,
    ⟨some 27, .bin .mul (.tmp 24) (.tmp 26), none⟩,
    ⟨some 28, .bin .sub (.tmp 22) (.tmp 27), none⟩,
    ⟨some 4, .mov (.tmp 28), none⟩])
  (.ret))))),
  [.tmp 4]⟩
theorem is_regencyref19_Length : IsFn Try.prog 24 c_regencyref19_Length := isFn_of [([], []), ([], [1]), ([], []), ([], []), ([], []), ([], []), ([], []), ([], []), ([], []), ([], [])] (by kernel_rfl)

abbrev s_digest_Of_0 (v0 v3 v8 v9 v10 : AV) : List AV := [v0, undefA, .any, v3, undefA, .any, .any, .any, v8, v9, v10, .any, .any, .any, .any, .any, .any, .any, undefA, undefA, undefA, undefA]
abbrev x_digest_Of_0 (v0 v3 : AV) : List AV := [v0, undefA, .any, v3, undefA, .any, .any, .any, .any, .any, .any, .any, .any, .any, .any, .any, .any, .any, undefA, undefA, undefA, undefA]
abbrev l_digest_Of_0 : CC := .kill [2, 5, 6, 7, 11, 12, 13, 14, 15, 16, 17] (.seq (.region [⟨some 11, .bin .lss (.tmp 10) (.tmp 9), none⟩])
  (.seq (.cond (.tmp 11) (.skip) (.kill [8, 9, 10, 11] (.exit 0)))
  (.seq (.block 1 (.seq (.region [⟨some 12, .iaddr 1 none (.tmp 8) (.tmp 10), none⟩,
    ⟨some 13, .load none (.tmp 12), none⟩,
    ⟨some 5, .mov (.tmp 13), none⟩])
  (.region [⟨some 14, .mov (.tmp 3), none⟩,
    ⟨some 15, .mov (.tmp 5), none⟩,
    ⟨some 16, .call 28 [(.tmp 14), (.tmp 15)], none⟩])))
  (.region [⟨some 17, .bin .add (.tmp 10) (.con (.int .i64 1)), none⟩,
    ⟨some 10, .mov (.tmp 17), none⟩]))))
/-- regency/digest.Of -/
def c_digest_Of : CFn := ⟨22, .seq (.region [⟨some 2, .mov (.con (.int .i64 0)), none⟩])
  (.seq (.region [⟨some 6, .build [.int .u32 0, .int .u32 0] [(0, 1, (.con (.int .u32 1))), (1, 1, (.con (.int .u32 40389)))], none⟩,
    ⟨some 7, .box (.tmp 6), none⟩,
    ⟨some 3, .mov (.tmp 7), none⟩])
  (.seq (.seq (.region [⟨some 8, .mov (.tmp 0), none⟩,
    ⟨some 9, .lenl (.tmp 8), none⟩,
    ⟨some 10, .mov (.con (.int .i64 0)), none⟩])
  (.block 0 (.kill [2, 5, 6, 7, 11, 12, 13, 14, 15, 16, 17] (.loop l_digest_Of_0))))
  (.seq (.region [⟨some 18, .mov (.tmp 3), none⟩,
    ⟨some 19, .take (.tmp 0), none⟩,
    ⟨some 20, .lenl (.tmp 19), none⟩,
    ⟨some 21, .call 29 [(.tmp 18), (.tmp 20)], none⟩,
    ⟨some 2, .mov (.tmp 21), none⟩])
  (.ret)))),
  [.tmp 2]⟩
theorem is_digest_Of : IsFn Try.prog 25 c_digest_Of := isFn_of [([], []), ([], []), ([], []), ([2, 5, 6, 7, 11, 12, 13, 14, 15, 16, 17], []), ([], []), ([8, 9, 10, 11], []), ([], []), ([], []), ([], []), ([], [1]), ([], [])] (by kernel_rfl)

abbrev s_regencyref04_Of_0 (v3 v4 v16 v17 v18 : AV) : List AV := [.any, undefA, .any, v3, v4, .any, undefA, .any, .any, .any, .any, .any, .any, .any, .any, .any, v16, v17, v18, .any, .any, .any, .any, .any, .any, .any, .any, .any, .any, .any, .any, .any, .any, .any, .any, .any, .any, .any, .any, undefA, undefA, undefA, undefA, undefA, undefA]
abbrev x_regencyref04_Of_0 (v3 v4 : AV) : List AV := [.any, undefA, .any, v3, v4, .any, undefA, .any, .any, .any, .any, .any, .any, .any, .any, .any, .any, .any, .any, .any, .any, .any, .any, .any, .any, .any, .any, .any, .any, .any, .any, .any, .any, .any, .any, .any, .any, .any, .any, undefA, undefA, undefA, undefA, undefA, undefA]
abbrev l_regencyref04_Of_0 : CC := .kill [0, 2, 5, 7, 8, 9, 10, 11, 12, 13, 14, 15, 19, 20, 21, 22, 23, 24, 25, 26, 27, 28, 29, 30, 31, 32, 33, 34, 35, 36, 37, 38] (.seq (.region [⟨some 19, .bin .lss (.tmp 18) (.tmp 17), none⟩])
  (.seq (.cond (.tmp 19) (.skip) (.kill [16, 17, 18, 19] (.exit 0)))
  (.seq (.block 1 (.seq (.region [⟨some 20, .iaddr 1 none (.tmp 16) (.tmp 18), none⟩,
    ⟨some 21, .load none (.tmp 20), none⟩,
    ⟨some 7, .mov (.tmp 21), none⟩])
  (.seq (.region [⟨some 22, .mov (.tmp 3), none⟩,
    ⟨some 23, .bin .mul (.tmp 22) (.con (.int .u64 16777619)), none⟩,
    ⟨some 24, .mov (.tmp 7), none⟩,
    ⟨some 25, .cInt .u64 (.tmp 24), none⟩,
    ⟨some 26, .bin .add (.tmp 23) (.tmp 25), none⟩,
    ⟨some 27, .bin .rem (.tmp 26) (.con (.int .u64 4294967296)), none⟩,
    ⟨some 3, .mov (.tmp 27), none⟩])
  (.seq (.region [⟨some 28, .mov (.tmp 4), none⟩,
    ⟨some 29, .mov (.tmp 3), none⟩,
    ⟨some 30, .bin .add (.tmp 28) (.tmp 29), none⟩,
    ⟨some 31, .bin .rem (.tmp 30) (.con (.int .u64 4294967296)), none⟩,
    ⟨some 8, .mov (.tmp 31), none⟩])
  (.region [⟨some 32, .mov (.tmp 8), none⟩,
    ⟨some 33, .bin .mul (.tmp 32) (.con (.int .u64 128)), none⟩,
    ⟨some 34, .bin .rem (.tmp 33) (.con (.int .u64 4294967296)), none⟩,
    ⟨some 35, .mov (.tmp 8), none⟩,
    ⟨some 36, .bin .quo (.tmp 35) (.con (.int .u64 33554432)), none⟩,
    ⟨some 37, .bin .add (.tmp 34) (.tmp 36), none⟩,
    ⟨some 4, .mov (.tmp 37), none⟩])))))
  (.region [⟨some 38, .bin .add (.tmp 18) (.con (.int .i64 1)), none⟩,
    ⟨some 18, .mov (.tmp 38), none⟩]))))
/-- regency/regencyref04.Of -/
def c_regencyref04_Of : CFn := ⟨45, .seq (.region [⟨some 2, .mov (.con (.int .i64 0)), none⟩])
  (.seq (.region [⟨some 3, .mov (.con (.int .u64 1)), none⟩,
    ⟨some 4, .mov (.con (.int .u64 40389)), none⟩])
  (.seq (.region [⟨some 9, .bslice 1 false [], none⟩,
    ⟨some 10, .mov (.tmp 0), none⟩,
    ⟨some 11, .append 1 1 false (.tmp 9) (.tmp 10), none⟩,
    ⟨some 12, .take (.tmp 0), none⟩,
    ⟨some 13, .lenl (.tmp 12), none⟩,
    ⟨some 14, .pcall 30 [(.tmp 13)], none⟩,
    ⟨some 15, .append 1 1 false (.tmp 11) (.tmp 14), none⟩,
    ⟨some 5, .take (.tmp 15), none⟩])
  (.seq (.seq (.region [⟨some 16, .take (.tmp 5), none⟩,
    ⟨some 17, .lenl (.tmp 16), none⟩,
    ⟨some 18, .mov (.con (.int .i64 0)), none⟩])
  (.block 0 (.kill [0, 2, 5, 7, 8, 9, 10, 11, 12, 13, 14, 15, 19, 20, 21, 22, 23, 24, 25, 26, 27, 28, 29, 30, 31, 32, 33, 34, 35, 36, 37, 38] (.loop l_regencyref04_Of_0))))
  (.seq (.region [⟨some 39, .mov (.tmp 3), none⟩,
    ⟨some 40, .bin .mul (.tmp 39) (.con (.int .u64 4294967296)), none⟩,
    ⟨some 41, .mov (.tmp 4), none⟩,
    ⟨some 42, .bin .add (.tmp 40) (.tmp 41), none⟩,
    ⟨some 43, .bin .rem (.tmp 42) (.con (.int .u64 4611686018427387904)), none⟩,
    ⟨some 44, .cInt .i64 (.tmp 43), none⟩,
    ⟨some 2, .mov (.tmp 44), none⟩])
  (.ret))))),
  [.tmp 2]⟩
theorem is_regencyref04_Of : IsFn Try.prog 26 c_regencyref04_Of := isFn_of [([], []), ([], []), ([], [3, 5, 7]), ([], [0]), ([0, 2, 5, 7, 8, 9, 10, 11, 12, 13, 14, 15, 19, 20, 21, 22, 23, 24, 25, 26, 27, 28, 29, 30, 31, 32, 33, 34, 35, 36, 37, 38], []), ([], []), ([16, 17, 18, 19], []), ([], []), ([], []), ([], []), ([], []), ([], []), ([], []), ([], [])] (by kernel_rfl)

/-- regency/chunk.size -/
def c_chunk_size : CFn := ⟨9, .seq (.region [⟨some 2, .mov (.con (.bool false)), none⟩])
  (.seq (.region [⟨some 3, .mov (.tmp 0), none⟩,
    ⟨some 4, .bin .geq (.tmp 3) (.con (.int .i64 1)), none⟩,
    ⟨some 5, .mov (.tmp 4), none⟩,
    ⟨some 6, .mov (.tmp 0), (some (5, true))⟩,
    ⟨some 7, .bin .leq (.tmp 6) (.con (.int .i64 512)), (some (5, true))⟩,
    ⟨some 8, .pick (.tmp 5) (.tmp 7) (.con (.bool false)), none⟩,
    ⟨some 2, .mov (.tmp 8), none⟩])
  (.ret)),
  [.tmp 2]⟩
theorem is_chunk_size : IsFn Try.prog 27 c_chunk_size := isFn_of [([], []), ([], []), ([], [])] (by kernel_rfl)

/-- (*regency/digest.pair).take -/
def c_digest_pair_take : CFn := ⟨28, .seq (.region [⟨some 4, .mov (.tmp 0), none⟩,
    ⟨some 5, .mov (.tmp 0), none⟩,
    ⟨some 6, .nilck (.tmp 5), none⟩,
    ⟨some 7, .faddr 0 (.tmp 6), none⟩,
    ⟨some 8, .load none (.tmp 7), none⟩,
    ⟨some 9, .bin .mul (.tmp 8) (.con (.int .u32 16777619)), none⟩,
    ⟨some 10, .mov (.tmp 1), none⟩,
    ⟨some 11, .cInt .u32 (.tmp 10), none⟩,
    ⟨some 12, .bin .add (.tmp 9) (.tmp 11), none⟩,
    ⟨some 13, .nilck (.tmp 4), none⟩,
    ⟨some 14, .faddr 0 (.tmp 13), none⟩,
    ⟨none, .store 1 (.tmp 14) (.tmp 12), none⟩])
  (.region [⟨some 15, .mov (.tmp 0), none⟩,
    ⟨some 16, .mov (.tmp 0), none⟩,
    ⟨some 17, .nilck (.tmp 16), none⟩,
    ⟨some 18, .faddr 1 (.tmp 17), none⟩,
    ⟨some 19, .load none (.tmp 18), none⟩,
    ⟨some 20, .mov (.tmp 0), none⟩,
    ⟨some 21, .nilck (.tmp 20), none⟩,
    ⟨some 22, .faddr 0 (.tmp 21), none⟩,
    ⟨some 23, .load none (.tmp 22), none⟩,
    ⟨some 24, .bin .add (.tmp 19) (.tmp 23), none⟩,
    ⟨some 25, .pcall 31 [(.tmp 24), (.con (.int .i64 7))], none⟩,
    ⟨some 26, .nilck (.tmp 15), none⟩,
    ⟨some 27, .faddr 1 (.tmp 26), none⟩,
    ⟨none, .store 1 (.tmp 27) (.tmp 25), none⟩]),
  []⟩
theorem is_digest_pair_take : IsFn Try.prog 28 c_digest_pair_take := isFn_of [([], []), ([], [10])] (by kernel_rfl)

/-- (*regency/digest.pair).end -/
def c_digest_pair_end : CFn := ⟨22, .seq (.region [⟨some 4, .mov (.con (.int .i64 0)), none⟩])
  (.seq (.region [⟨some 5, .mov (.tmp 0), none⟩,
    ⟨some 6, .mov (.tmp 1), none⟩,
    ⟨some 7, .call 32 [(.tmp 5), (.tmp 6)], none⟩])
  (.seq (.region [⟨some 8, .mov (.tmp 0), none⟩,
    ⟨some 9, .nilck (.tmp 8), none⟩,
    ⟨some 10, .faddr 0 (.tmp 9), none⟩,
    ⟨some 11, .load none (.tmp 10), none⟩,
    ⟨some 12, .cInt .u64 (.tmp 11), none⟩,
    ⟨some 13, .bin .shl (.tmp 12) (.con (.int .u64 32)), none⟩,
    ⟨some 14, .mov (.tmp 0), none⟩,
    ⟨some 15, .nilck (.tmp 14), none⟩,
    ⟨some 16, .faddr 1 (.tmp 15), none⟩,
    ⟨some 17, .load none (.tmp 16), none⟩,
    ⟨some 18, .cInt .u64 (.tmp 17), none⟩,
    ⟨some 19, .bin .or (.tmp 13) (.tmp 18), none⟩,
    ⟨some 20, .bin .and (.tmp 19) (.con (.int .u64 4611686018427387903)), none⟩,
    ⟨some 21, .cInt .i64 (.tmp 20), none⟩,
    ⟨some 4, .mov (.tmp 21), none⟩])
  (.ret))),
  [.tmp 4]⟩
theorem is_digest_pair_end : IsFn Try.prog 29 c_digest_pair_end := isFn_of [([], []), ([], []), ([], []), ([], [])] (by kernel_rfl)

abbrev s_regencyref04_Eight_0 (v3 v4 v5 : AV) : List AV := [.any, undefA, .any, v3, v4, v5, .any, .any, .any, .any, .any, .any, .any, .any, .any, .any, .any, .any, .any, .any, undefA]
abbrev x_regencyref04_Eight_0 (v3 : AV) : List AV := [.any, undefA, .any, v3, .any, .any, .any, .any, .any, .any, .any, .any, .any, .any, .any, .any, .any, .any, .any, .any, undefA]
abbrev l_regencyref04_Eight_0 : CC := .kill [0, 2, 6, 7, 8, 9, 10, 11, 12, 13, 14, 15, 16, 17, 18, 19] (.seq (.seq (.region [⟨some 8, .mov (.tmp 5), none⟩,
    ⟨some 9, .bin .lss (.tmp 8) (.con (.int .i64 8)), none⟩])
  (.cond (.tmp 9) (.skip) (.kill [4, 5, 8, 9] (.exit 0))))
  (.seq (.block 1 (.seq (.region [⟨some 12, .take (.tmp 3), none⟩,
    ⟨some 13, .mov (.tmp 4), none⟩,
    ⟨some 14, .bin .rem (.tmp 13) (.con (.int .u64 256)), none⟩,
    ⟨some 15, .cInt .u8 (.tmp 14), none⟩,
    ⟨some 16, .bslice 1 false [(.tmp 15)], none⟩,
    ⟨some 17, .append 1 1 false (.tmp 12) (.tmp 16), none⟩,
    ⟨some 3, .take (.tmp 17), none⟩])
  (.region [⟨some 18, .mov (.tmp 4), none⟩,
    ⟨some 19, .bin .quo (.tmp 18) (.con (.int .u64 256)), none⟩,
    ⟨some 4, .mov (.tmp 19), none⟩])))
  (.region [⟨some 10, .mov (.tmp 5), none⟩,
    ⟨some 11, .bin .add (.tmp 10) (.con (.int .i64 1)), none⟩,
    ⟨some 5, .mov (.tmp 11), none⟩])))
/-- regency/regencyref04.Eight -/
def c_regencyref04_Eight : CFn := ⟨21, .seq (.region [⟨some 2, .take (.con (.sl .ex [])), none⟩])
  (.seq (.region [⟨some 3, .take (.con (.sl .ex [])), none⟩])
  (.seq (.region [⟨some 6, .mov (.tmp 0), none⟩,
    ⟨some 7, .cInt .u64 (.tmp 6), none⟩,
    ⟨some 4, .mov (.tmp 7), none⟩])
  (.seq (.seq (.region [⟨some 5, .mov (.con (.int .i64 0)), none⟩])
  (.block 0 (.kill [0, 2, 6, 7, 8, 9, 10, 11, 12, 13, 14, 15, 16, 17, 18, 19] (.loop l_regencyref04_Eight_0))))
  (.seq (.region [⟨some 20, .take (.tmp 3), none⟩,
    ⟨some 2, .take (.tmp 20), none⟩])
  (.ret))))),
  [.tmp 2]⟩
theorem is_regencyref04_Eight : IsFn Try.prog 30 c_regencyref04_Eight := isFn_of [([], [0]), ([], [0]), ([], []), ([], []), ([0, 2, 6, 7, 8, 9, 10, 11, 12, 13, 14, 15, 16, 17, 18, 19], []), ([], []), ([4, 5, 8, 9], []), ([], [0, 6]), ([], []), ([], []), ([], [0, 1]), ([], [])] (by kernel_rfl)

/-- math/bits.RotateLeft32 -/
def c_math_bits_RotateLeft32 : CFn := ⟨17, .seq (.region [⟨some 4, .mov (.con (.int .u32 0)), none⟩])
  (.seq (.region [⟨some 6, .mov (.tmp 1), none⟩,
    ⟨some 7, .cInt .u64 (.tmp 6), none⟩,
    ⟨some 8, .bin .and (.tmp 7) (.con (.int .u64 31)), none⟩,
    ⟨some 5, .mov (.tmp 8), none⟩])
  (.seq (.region [⟨some 9, .mov (.tmp 0), none⟩,
    ⟨some 10, .mov (.tmp 5), none⟩,
    ⟨some 11, .bin .shl (.tmp 9) (.tmp 10), none⟩,
    ⟨some 12, .mov (.tmp 0), none⟩,
    ⟨some 13, .mov (.tmp 5), none⟩,
    ⟨some 14, .bin .sub (.con (.int .u64 32)) (.tmp 13), none⟩,
    ⟨some 15, .bin .shr (.tmp 12) (.tmp 14), none⟩,
    ⟨some 16, .bin .or (.tmp 11) (.tmp 15), none⟩,
    ⟨some 4, .mov (.tmp 16), none⟩])
  (.ret))),
  [.tmp 4]⟩
theorem is_math_bits_RotateLeft32 : IsFn Try.prog 31 c_math_bits_RotateLeft32 := isFn_of [([], []), ([], []), ([], []), ([], [])] (by kernel_rfl)

abbrev s_digest_pair_number_0 (v0 v1 v5 : AV) : List AV := [v0, v1, undefA, undefA, .any, v5, .any, .any, .any, .any, .any, .any, .any, .any, .any, .any]
abbrev x_digest_pair_number_0  : List AV := [.any, .any, undefA, undefA, .any, .any, .any, .any, .any, .any, .any, .any, .any, .any, .any, .any]
abbrev l_digest_pair_number_0 : CC := .kill [4, 6, 7, 8, 9, 10, 11, 12, 13, 14, 15] (.seq (.region [⟨some 6, .bin .lss (.tmp 5) (.con (.int .i64 8)), none⟩])
  (.seq (.cond (.tmp 6) (.skip) (.kill [0, 1, 5, 6] (.exit 0)))
  (.seq (.block 1 (.seq (.region [⟨some 7, .mov (.tmp 5), none⟩,
    ⟨some 4, .mov (.tmp 7), none⟩])
  (.region [⟨some 8, .mov (.tmp 0), none⟩,
    ⟨some 9, .mov (.tmp 1), none⟩,
    ⟨some 10, .mov (.tmp 4), none⟩,
    ⟨some 11, .bin .mul (.con (.int .i64 8)) (.tmp 10), none⟩,
    ⟨some 12, .bin .shr (.tmp 9) (.tmp 11), none⟩,
    ⟨some 13, .cInt .u8 (.tmp 12), none⟩,
    ⟨some 14, .call 28 [(.tmp 8), (.tmp 13)], none⟩])))
  (.region [⟨some 15, .bin .add (.tmp 5) (.con (.int .i64 1)), none⟩,
    ⟨some 5, .mov (.tmp 15), none⟩]))))
/-- (*regency/digest.pair).number -/
def c_digest_pair_number : CFn := ⟨16, .seq (.region [⟨some 5, .mov (.con (.int .i64 0)), none⟩])
  (.block 0 (.kill [4, 6, 7, 8, 9, 10, 11, 12, 13, 14, 15] (.loop l_digest_pair_number_0))),
  []⟩
theorem is_digest_pair_number : IsFn Try.prog 32 c_digest_pair_number := isFn_of [([], []), ([4, 6, 7, 8, 9, 10, 11, 12, 13, 14, 15], []), ([], []), ([0, 1, 5, 6], []), ([], []), ([], []), ([], [])] (by kernel_rfl)

end Go.Proofs.Ytgmhbncbmpahjaa.F
