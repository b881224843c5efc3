/- Functions of the program, compiled, by a program (gen.py). -/
import Derived.Test.YtlcflpanellbfaaGreatDoorProg
import Derived.KernelRfl
import Derived.Test.YtlcflpanellbfaaGreatDoorM19
import Derived.Test.YtlcflpanellbfaaGreatDoorF1
set_option maxRecDepth 100000
namespace Go.Proofs.YtlcflpanellbfaaGreatDoor.F
open Go.Proofs.YtlcflpanellbfaaGreatDoor.M Go.Proofs Go.RowKit
abbrev kl2_0 : List Nat := [4, 5, 6, 9, 10, 11, 12, 13, 14, 15, 16, 17, 18]
abbrev kl2_1 : List Nat := [1, 5, 6, 7, 8, 9, 13, 14, 15, 16, 17, 18, 19]
abbrev kl2_2 : List Nat := [2, 3, 5, 8, 9, 10, 11, 12, 13, 14]
abbrev kl2_3 : List Nat := [0, 2, 4, 5, 6, 10, 11, 12, 13, 14, 15, 16, 17, 18, 19, 20, 21, 22]
abbrev kl2_4 : List Nat := [2, 3, 4, 5, 6, 7, 11, 12, 13, 14, 15, 16, 17, 18, 19, 20, 21, 22, 23, 24, 25, 26, 27, 28, 29, 30, 31, 32, 33, 34, 35, 36, 37, 38, 39, 40, 41, 42, 43, 44, 45, 46, 47, 48, 49]
abbrev kl2_5 : List Nat := [1, 5, 6, 7, 8, 9, 13, 14, 15, 16, 17, 18, 19, 20, 21, 22, 23, 24]
abbrev kl2_6 : List Nat := [4, 5, 6, 7, 8, 9, 10, 11, 14, 15, 16, 17, 18, 19, 20, 21, 22, 23, 24, 25]
abbrev kl2_7 : List Nat := [0, 2, 3, 4, 7, 8, 9, 10, 11, 15, 16, 17, 18, 19, 20, 21, 22, 23, 24, 25, 26, 27, 28, 29, 30, 31, 32, 33, 34, 35, 36, 37, 38, 39, 40, 41, 42, 43, 44, 45, 46, 47, 48, 49]
abbrev kl2_8 : List Nat := [2, 3, 5, 8, 9, 10, 11, 12, 13, 14, 15, 16, 17]
abbrev kl2_9 : List Nat := [0, 1, 4, 6, 7, 8, 9, 10, 11, 12, 13, 14, 15, 16, 17, 18, 19, 20, 21, 22, 23, 24, 25, 26, 27, 28, 29, 30, 31, 32, 33, 34, 35, 36, 37, 38, 39, 40, 41, 42, 43, 44, 45, 46, 47, 48, 49, 50, 51, 52, 53, 54, 55, 56, 57, 58]
abbrev kl2_10 : List Nat := [2, 5, 6, 30, 31, 32, 33, 34, 35, 36, 37, 38, 39, 40, 41]
abbrev kl2_11 : List Nat := [2, 5, 6, 7, 8, 9, 10, 11, 12, 13, 14, 15, 16, 17, 18, 19, 20]
abbrev kl2_12 : List Nat := [4, 7, 8, 9, 10, 11, 12, 14, 15, 16, 17, 18, 19, 20, 21, 22, 23, 24, 25, 26, 27, 28, 29, 30, 31, 32, 33, 34, 35]
abbrev kl2_13 : List Nat := [10, 11, 12, 13, 16, 17, 18, 19, 20, 21, 22, 23, 24, 25, 26, 27, 28, 29, 30, 31, 32, 33, 34, 35, 36, 37, 38, 39, 40, 41, 42, 43, 44, 45, 46, 47, 48, 49, 50, 51, 52, 53]
abbrev kl2_14 : List Nat := [2, 4, 5, 6, 7, 8, 10, 11, 12, 13, 14, 15, 16, 17, 18, 19, 20, 21, 22, 23, 24, 25, 26, 27, 28, 29, 30, 31, 32, 33, 34, 35, 36, 37, 38, 39, 40, 41, 42, 43, 44, 45, 46, 47, 48, 49, 50, 51, 52, 53, 54, 55, 56, 57, 58, 59]
abbrev kl2_15 : List Nat := [0, 2, 5, 9, 10, 11, 12, 13, 14, 15, 16]
abbrev kl2_16 : List Nat := [4, 5, 6, 7, 8, 12, 13, 14, 15, 16, 17, 18, 19, 20, 21, 22, 23, 24, 25, 26, 27, 28, 29, 30]
abbrev kl2_17 : List Nat := [12, 13, 14, 15, 16, 17, 18, 19, 20, 21, 22, 23, 24, 25, 26, 27, 28, 29, 30, 31, 32, 33, 34, 35, 36, 37, 38, 39, 40, 41, 42, 43, 44, 45, 46, 47, 48, 49, 50, 51, 52, 53, 54, 55, 56, 57, 58, 59, 60, 61, 62, 63, 64, 65, 66, 67, 68, 69, 70, 71, 72, 73, 74, 75, 76, 77, 78, 79, 80, 81, 82, 83, 84, 85, 86, 87, 88, 89, 90, 91, 92, 93, 94, 95, 96, 97, 98, 99, 100, 101, 102, 103, 104, 105, 106, 107, 108, 109, 110, 111, 112, 113, 114, 115, 116, 117, 118, 119, 120, 121, 122, 123, 124, 125, 126, 127, 128, 129, 130, 131, 132, 133, 134, 135, 136, 137, 138, 139, 140, 141, 142, 143, 144, 145, 146, 147]
abbrev kl2_18 : List Nat := [12, 13, 14, 17, 18, 19, 20, 21, 22, 23, 24, 25, 26, 27, 28, 29, 30, 31, 32, 33, 34, 35, 36, 37, 38, 39, 40, 41, 42, 43, 44, 45, 46, 47, 48, 49, 50, 51, 52]
abbrev kl2_19 : List Nat := [9, 10, 11, 12, 13, 14, 15, 16, 17, 18, 19, 20, 21, 22, 23, 24, 25, 26, 27, 28, 29, 30, 31, 32, 33, 34, 35, 36, 37, 38, 39, 40, 41, 42, 43, 44, 45, 46, 47, 48, 49, 50, 51, 52]
abbrev kl2_20 : List Nat := [7, 8, 15, 16, 17, 18, 19, 20, 21, 22, 23, 24, 25, 26, 27, 28, 29, 30, 31, 32, 33]
abbrev kl2_21 : List Nat := [12, 13, 14, 15, 21, 22, 23, 24, 25, 31, 32, 38, 39, 40, 41, 42, 43, 44, 45, 46, 47, 48, 49, 50, 51, 52, 53, 54, 55, 56, 57, 58, 59, 60, 61, 62, 63, 64, 65, 66, 67, 68, 69, 70, 71, 72, 73, 74, 75, 76, 77, 78, 79, 80, 81, 82, 83, 84, 85, 86, 87, 88, 89, 90, 91, 92, 93, 94, 95, 96, 97, 98, 99, 100, 101, 102, 103, 104]
abbrev kl2_22 : List Nat := [9, 18, 19, 20, 21, 22, 23, 24, 25, 26, 27, 28, 29, 30, 31, 32, 33, 34]
abbrev kl2_23 : List Nat := [0, 1, 2, 3, 8, 12, 13, 14]
abbrev s_regencyref05_Text_0 (v1 v3 v7 v8 v9 : AV) : List AV := [.any, v1, .any, v3, .any, .any, .any, v7, v8, v9, .any, .any, .any, .any, .any, .any, .any, .any, .any, .any, .any, .any, .any, undefA, undefA, undefA, undefA, undefA, undefA]
abbrev x_regencyref05_Text_0 (v1 v3 : AV) : List AV := [.any, v1, .any, v3, .any, .any, .any, .any, .any, .any, .any, .any, .any, .any, .any, .any, .any, .any, .any, .any, .any, .any, .any, undefA, undefA, undefA, undefA, undefA, undefA]
abbrev l_regencyref05_Text_0 : CC := .kill kl2_3 (.seq (.region [oN 10 (.bin .lss (tP 9) (tP 8))])
  (.seq (.cond (tP 10) (.skip) (.kill [7, 8, 9, 10] (.exit 0)))
  (.seq (.block 1 (.seq (.region [mV 11 9,
 oN 12 (.iaddr 1 none (tP 7) (tP 9)),
 lD 13 12,
 mV 4 11,
 mV 5 13])
  (.seq (.seq (.region [mV 14 4,
 oN 15 (.bin .gtr (tP 14) (.con (.int .i64 0)))])
  (.cond (tP 15) (.region [mV 16 3,
 oN 17 (.bin .add (tP 16) (.con (.str ⟨#[46]⟩))),
 mV 3 17]) (.skip)))
  (.region [mV 18 3,
 mV 19 5,
 oN 20 (.pcall 92 [(tP 19)]),
 oN 21 (.bin .add (tP 18) (tP 20)),
 mV 3 21]))))
  (.region [oN 22 (.bin .add (tP 9) (.con (.int .i64 1))),
 mV 9 22]))))
def c_regencyref05_Text : CFn := ⟨29, .seq (.region [oN 1 (.box (tP 0)),
 oN 2 (.mov (.con (.str ⟨#[]⟩)))])
  (.seq (.region [oN 3 (.mov (.con (.str ⟨#[]⟩)))])
  (.seq (.seq (.region [oN 6 (.faddr 0 (tP 1)),
 lD 7 6,
 oN 8 (.lenl (tP 7)),
 oN 9 (.mov (.con (.int .i64 0)))])
  (.block 0 (.kill kl2_3 (.loop l_regencyref05_Text_0))))
  (.seq (.region [mV 23 3,
 oN 24 (.bin .add (tP 23) (.con (.str ⟨#[47]⟩))),
 oN 25 (.faddr 1 (tP 1)),
 lD 26 25,
 oN 27 (.pcall 92 [(tP 26)]),
 oN 28 (.bin .add (tP 24) (tP 27)),
 mV 2 28])
  (.ret)))),
  [.tmp 2]⟩
theorem is_regencyref05_Text : IsFn Tryz.prog 64 c_regencyref05_Text := isFn_of [([], []), ([], []), ([], []), (kl2_3, []), ([], []), ([7, 8, 9, 10], []), ([], []), ([], []), ([], []), ([], [2]), ([], []), ([], [4]), ([], [])] (by kernel_rfl)
abbrev s_slices_IndexFunc_call_part_call_part_0 (v0 v1 v7 v8 : AV) : List AV := [v0, v1, undefA, undefA, .any, .any, .any, v7, v8, .any, .any, .any, .any, .any, .any, .any, .any, .any, .any]
abbrev x_slices_IndexFunc_call_part_call_part_0  : List AV := [.any, .any, undefA, undefA, .any, .any, .any, .any, .any, .any, .any, .any, .any, .any, .any, .any, .any, .any, .any]
abbrev l_slices_IndexFunc_call_part_call_part_0 : CC := .kill kl2_0 (.seq (.region [oN 9 (.bin .lss (tP 8) (tP 7))])
  (.seq (.cond (tP 9) (.skip) (.kill [0, 1, 7, 8, 9] (.exit 0)))
  (.seq (.block 1 (.seq (.region [mV 10 8,
 mV 5 10])
  (.seq (.region [mV 11 1,
 mV 12 0,
 mV 13 5,
 oN 14 (.iaddr 1 none (tP 12) (tP 13)),
 lD 15 14,
 oN 16 (.callv (tP 11) [(tP 15)])])
  (.cond (tP 16) (.seq (.region [mV 17 5,
 mV 4 17])
  (.ret)) (.skip)))))
  (.region [oN 18 (.bin .add (tP 8) (.con (.int .i64 1))),
 mV 8 18]))))
def c_slices_IndexFunc_call_part_call_part : CFn := ⟨19, .seq (.region [oN 4 (.mov (.con (.int .i64 0)))])
  (.seq (.seq (.region [mV 6 0,
 oN 7 (.lenl (tP 6)),
 oN 8 (.mov (.con (.int .i64 0)))])
  (.block 0 (.kill kl2_0 (.loop l_slices_IndexFunc_call_part_call_part_0))))
  (.seq (.region [oN 4 (.mov (.con (.int .i64 (-1))))])
  (.ret))),
  [.tmp 4]⟩
theorem is_slices_IndexFunc_call_part_call_part : IsFn Tryz.prog 65 c_slices_IndexFunc_call_part_call_part := isFn_of [([], []), ([], []), (kl2_0, []), ([], []), ([0, 1, 7, 8, 9], []), ([], []), ([], []), ([], []), ([], []), ([], []), ([], []), ([], [])] (by kernel_rfl)
def c_path_Right : CFn := ⟨11, .seq (.region [oN 2 (.mov (.con (.bool false)))])
  (.seq (.region [mV 3 0,
 oN 4 (.lenl (tP 3)),
 oN 5 (.bin .leq (tP 4) (.con (.int .i64 6))),
 mV 6 5,
 oG 7 (.take (tP 0)) 6 true,
 oG 8 (.call 93 [(tP 7), (.con (.fn (.func 94) [] []))]) 6 true,
 oG 9 (.un .not (tP 8)) 6 true,
 oN 10 (.pick (tP 6) (tP 9) (.con (.bool false))),
 mV 2 10])
  (.ret)),
  [.tmp 2]⟩
theorem is_path_Right : IsFn Tryz.prog 66 c_path_Right := isFn_of [([], []), ([], [4]), ([], [])] (by kernel_rfl)
abbrev s_label_Right_0 (v0 v8 v9 v10 : AV) : List AV := [v0, undefA, .any, .any, .any, .any, .any, .any, v8, v9, v10, .any, .any, .any, .any, .any, .any, .any, .any, .any, .any, .any, .any, .any, .any, .any, .any, .any, .any, .any, .any, .any, .any, .any, .any, .any, .any, .any, .any, .any, .any, .any, .any, .any, .any, .any, .any, .any, .any, .any]
abbrev x_label_Right_0  : List AV := [.any, undefA, .any, .any, .any, .any, .any, .any, .any, .any, .any, .any, .any, .any, .any, .any, .any, .any, .any, .any, .any, .any, .any, .any, .any, .any, .any, .any, .any, .any, .any, .any, .any, .any, .any, .any, .any, .any, .any, .any, .any, .any, .any, .any, .any, .any, .any, .any, .any, .any]
abbrev l_label_Right_0 : CC := .kill kl2_4 (.seq (.region [oN 11 (.bin .lss (tP 10) (tP 9))])
  (.seq (.cond (tP 11) (.skip) (.kill [0, 8, 9, 10, 11] (.exit 0)))
  (.seq (.block 1 (.seq (.region [mV 12 10,
 oN 13 (.iaddr 2 none (tP 8) (tP 10)),
 oN 14 (.load (some 2) (tP 13)),
 oN 4 (.alloc [.str ⟨#[]⟩, .int .i64 0]),
 mV 3 12,
 ⟨none, .store 2 (tP 4) (tP 14), none⟩])
  (.seq (.region [oN 15 (.faddr 0 (tP 4)),
 lD 16 15,
 oN 17 (.pcall 70 [(tP 16)]),
 oN 18 (.un .not (tP 17)),
 mV 19 18,
 oG 20 (.faddr 1 (tP 4)) 19 false,
 oG 21 (.load none (tP 20)) 19 false,
 oG 22 (.bin .eql (tP 21) (.con (.int .i64 1))) 19 false,
 oN 23 (.pick (tP 19) (.con (.bool true)) (tP 22)),
 mV 24 23,
 oG 25 (.faddr 1 (tP 4)) 24 false,
 oG 26 (.load none (tP 25)) 24 false,
 oG 27 (.bin .lss (tP 26) (.con (.int .i64 0))) 24 false,
 oN 28 (.pick (tP 24) (.con (.bool true)) (tP 27)),
 mV 29 28,
 oG 30 (.faddr 1 (tP 4)) 29 false,
 oG 31 (.load none (tP 30)) 29 false,
 oG 32 (.bin .geq (tP 31) (.con (.int .i64 4))) 29 false,
 oN 33 (.pick (tP 29) (.con (.bool true)) (tP 32)),
 mV 34 33,
 oG 35 (.mov (tP 3)) 34 false,
 oG 36 (.bin .gtr (tP 35) (.con (.int .i64 0))) 34 false,
 oG 37 (.mov (tP 36)) 34 false,
 oG 38 (.mov (tP 0)) 37 true,
 oG 39 (.mov (tP 3)) 37 true,
 oG 40 (.bin .sub (tP 39) (.con (.int .i64 1))) 37 true,
 oG 41 (.iaddr 2 none (tP 38) (tP 40)) 37 true,
 oG 42 (.load (some 2) (tP 41)) 37 true,
 oG 43 (.faddr 0 (tP 4)) 37 true,
 oG 44 (.load none (tP 43)) 37 true,
 oG 45 (.pcall 96 [(tP 42), (tP 44)]) 37 true,
 oG 46 (.bin .geq (tP 45) (.con (.int .i64 0))) 37 true,
 oG 47 (.pick (tP 37) (tP 46) (.con (.bool false))) 34 false,
 oN 48 (.pick (tP 34) (.con (.bool true)) (tP 47))])
  (.cond (tP 48) (.seq (.region [oN 2 (.mov (.con (.bool false)))])
  (.ret)) (.skip)))))
  (.region [oN 49 (.bin .add (tP 10) (.con (.int .i64 1))),
 mV 10 49]))))
def c_label_Right : CFn := ⟨50, .seq (.region [oN 2 (.mov (.con (.bool false)))])
  (.seq (.seq (.region [mV 5 0,
 oN 6 (.lenl (tP 5)),
 oN 7 (.bin .gtr (tP 6) (.con (.int .i64 8)))])
  (.cond (tP 7) (.seq (.region [oN 2 (.mov (.con (.bool false)))])
  (.ret)) (.skip)))
  (.seq (.seq (.region [mV 8 0,
 oN 9 (.lenl (tP 8)),
 oN 10 (.mov (.con (.int .i64 0)))])
  (.block 0 (.kill kl2_4 (.loop l_label_Right_0))))
  (.seq (.region [oN 2 (.mov (.con (.bool true)))])
  (.ret)))),
  [.tmp 2]⟩
theorem is_label_Right : IsFn Tryz.prog 67 c_label_Right := isFn_of [([], []), ([], []), ([], []), ([], []), ([], []), (kl2_4, []), ([], []), ([0, 8, 9, 10, 11], []), ([], []), ([], [2, 30]), ([], []), ([], []), ([], []), ([], []), ([], [])] (by kernel_rfl)
def c_call_number : CFn := ⟨9, .seq (.region [oN 2 (.mov (.con (.bool false)))])
  (.seq (.region [mV 3 0,
 oN 4 (.bin .geq (tP 3) (.con (.int .i64 0))),
 mV 5 4,
 oG 6 (.mov (tP 0)) 5 true,
 oG 7 (.bin .leq (tP 6) (.con (.int .i64 1048576))) 5 true,
 oN 8 (.pick (tP 5) (tP 7) (.con (.bool false))),
 mV 2 8])
  (.ret)),
  [.tmp 2]⟩
theorem is_call_number : IsFn Tryz.prog 68 c_call_number := isFn_of [([], []), ([], []), ([], [])] (by kernel_rfl)
def c_owns_Right : CFn := ⟨12, .seq (.region [oN 2 (.mov (.con (.bool false)))])
  (.seq (.region [mV 3 0,
 oN 4 (.lenl (tP 3)),
 oN 5 (.bin .leq (tP 4) (.con (.int .i64 8))),
 mV 6 5,
 oG 7 (.mov (tP 0)) 6 true,
 oG 8 (.pcall 97 [(tP 7)]) 6 true,
 oG 9 (.take (tP 0)) 6 true,
 oG 10 (.pcall 51 [(tP 8), (tP 9)]) 6 true,
 oN 11 (.pick (tP 6) (tP 10) (.con (.bool false))),
 mV 2 11])
  (.ret)),
  [.tmp 2]⟩
theorem is_owns_Right : IsFn Tryz.prog 69 c_owns_Right := isFn_of [([], []), ([], [5, 6, 7]), ([], [])] (by kernel_rfl)
def c_cats_Right : CFn := ⟨13, .seq (.region [oN 2 (.mov (.con (.bool false)))])
  (.seq (.region [mV 7 0,
 oN 8 (.pcall 98 [(tP 7)]),
 oN 6 (.take (tP 8)),
 oN 9 (.extract 6 0),
 oN 10 (.extract 6 1),
 oN 11 (.extract 6 2),
 oN 3 (.take (tP 9)),
 mV 4 10,
 mV 5 11])
  (.seq (.region [mV 12 5,
 mV 2 12])
  (.ret))),
  [.tmp 2]⟩
theorem is_cats_Right : IsFn Tryz.prog 70 c_cats_Right := isFn_of [([], []), ([], [1, 2, 6]), ([], []), ([], [])] (by kernel_rfl)
abbrev s_path_Put_0 (v0 v10 v11 v12 : AV) : List AV := [v0, .any, undefA, undefA, undefA, .any, .any, .any, .any, .any, v10, v11, v12, .any, .any, .any, .any, .any, .any, .any]
abbrev x_path_Put_0  : List AV := [.any, .any, undefA, undefA, undefA, .any, .any, .any, .any, .any, .any, .any, .any, .any, .any, .any, .any, .any, .any, .any]
abbrev l_path_Put_0 : CC := .kill kl2_1 (.seq (.region [oN 13 (.bin .lss (tP 12) (tP 11))])
  (.seq (.cond (tP 13) (.skip) (.kill [0, 10, 11, 12, 13] (.exit 0)))
  (.seq (.block 1 (.seq (.region [oN 14 (.iaddr 1 none (tP 10) (tP 12)),
 lD 15 14,
 mV 5 15])
  (.region [mV 16 0,
 mV 17 5,
 oN 18 (.call 40 [(tP 16), (tP 17)])])))
  (.region [oN 19 (.bin .add (tP 12) (.con (.int .i64 1))),
 mV 12 19]))))
def c_path_Put : CFn := ⟨20, .seq (.region [mV 6 0,
 mV 7 1,
 oN 8 (.lenl (tP 7)),
 oN 9 (.call 40 [(tP 6), (tP 8)])])
  (.seq (.region [oN 10 (.take (tP 1)),
 oN 11 (.lenl (tP 10)),
 oN 12 (.mov (.con (.int .i64 0)))])
  (.block 0 (.kill kl2_1 (.loop l_path_Put_0)))),
  []⟩
theorem is_path_Put : IsFn Tryz.prog 71 c_path_Put := isFn_of [([], []), ([], [0]), (kl2_1, []), ([], []), ([0, 10, 11, 12, 13], []), ([], []), ([], []), ([], [])] (by kernel_rfl)
abbrev s_label_Put_0 (v0 v10 v11 v12 : AV) : List AV := [v0, .any, undefA, undefA, undefA, .any, .any, .any, .any, .any, v10, v11, v12, .any, .any, .any, .any, .any, .any, .any, .any, .any, .any, .any, .any]
abbrev x_label_Put_0  : List AV := [.any, .any, undefA, undefA, undefA, .any, .any, .any, .any, .any, .any, .any, .any, .any, .any, .any, .any, .any, .any, .any, .any, .any, .any, .any, .any]
abbrev l_label_Put_0 : CC := .kill kl2_5 (.seq (.region [oN 13 (.bin .lss (tP 12) (tP 11))])
  (.seq (.cond (tP 13) (.skip) (.kill [0, 10, 11, 12, 13] (.exit 0)))
  (.seq (.block 1 (.seq (.region [oN 14 (.iaddr 2 none (tP 10) (tP 12)),
 oN 15 (.load (some 2) (tP 14)),
 oN 5 (.alloc [.str ⟨#[]⟩, .int .i64 0]),
 ⟨none, .store 2 (tP 5) (tP 15), none⟩])
  (.seq (.region [mV 16 0,
 oN 17 (.faddr 0 (tP 5)),
 lD 18 17,
 oN 19 (.call 74 [(tP 16), (tP 18)])])
  (.region [mV 20 0,
 oN 21 (.faddr 1 (tP 5)),
 lD 22 21,
 oN 23 (.call 40 [(tP 20), (tP 22)])]))))
  (.region [oN 24 (.bin .add (tP 12) (.con (.int .i64 1))),
 mV 12 24]))))
def c_label_Put : CFn := ⟨25, .seq (.region [mV 6 0,
 mV 7 1,
 oN 8 (.lenl (tP 7)),
 oN 9 (.call 40 [(tP 6), (tP 8)])])
  (.seq (.region [oN 10 (.take (tP 1)),
 oN 11 (.lenl (tP 10)),
 oN 12 (.mov (.con (.int .i64 0)))])
  (.block 0 (.kill kl2_5 (.loop l_label_Put_0)))),
  []⟩
theorem is_label_Put : IsFn Tryz.prog 72 c_label_Put := isFn_of [([], []), ([], [0]), (kl2_5, []), ([], []), ([0, 10, 11, 12, 13], []), ([], []), ([], []), ([], []), ([], [])] (by kernel_rfl)
abbrev s_owns_Put_0 (v0 v10 v11 v12 : AV) : List AV := [v0, .any, undefA, undefA, undefA, .any, .any, .any, .any, .any, v10, v11, v12, .any, .any, .any, .any, .any, .any, .any]
abbrev x_owns_Put_0  : List AV := [.any, .any, undefA, undefA, undefA, .any, .any, .any, .any, .any, .any, .any, .any, .any, .any, .any, .any, .any, .any, .any]
abbrev l_owns_Put_0 : CC := .kill kl2_1 (.seq (.region [oN 13 (.bin .lss (tP 12) (tP 11))])
  (.seq (.cond (tP 13) (.skip) (.kill [0, 10, 11, 12, 13] (.exit 0)))
  (.seq (.block 1 (.seq (.region [oN 14 (.iaddr 1 none (tP 10) (tP 12)),
 lD 15 14,
 mV 5 15])
  (.region [mV 16 0,
 mV 17 5,
 oN 18 (.call 74 [(tP 16), (tP 17)])])))
  (.region [oN 19 (.bin .add (tP 12) (.con (.int .i64 1))),
 mV 12 19]))))
def c_owns_Put : CFn := ⟨20, .seq (.region [mV 6 0,
 mV 7 1,
 oN 8 (.lenl (tP 7)),
 oN 9 (.call 40 [(tP 6), (tP 8)])])
  (.seq (.region [oN 10 (.take (tP 1)),
 oN 11 (.lenl (tP 10)),
 oN 12 (.mov (.con (.int .i64 0)))])
  (.block 0 (.kill kl2_1 (.loop l_owns_Put_0)))),
  []⟩
theorem is_owns_Put : IsFn Tryz.prog 73 c_owns_Put := isFn_of [([], []), ([], [0]), (kl2_1, []), ([], []), ([0, 10, 11, 12, 13], []), ([], []), ([], []), ([], [])] (by kernel_rfl)
def c_tape_Pen_Text : CFn := ⟨17, .seq (.region [mV 4 0,
 mV 5 1,
 oN 6 (.lens (tP 5)),
 oN 7 (.call 40 [(tP 4), (tP 6)])])
  (.cond (tP 7) (.region [mV 8 0,
 mV 9 0,
 oN 10 (.nilck (tP 9)),
 oN 11 (.faddr 0 (tP 10)),
 oN 12 (.ltake (tP 11)),
 mV 13 1,
 oN 14 (.append 1 1 true (tP 12) (tP 13)),
 oN 15 (.nilck (tP 8)),
 oN 16 (.faddr 0 (tP 15)),
 ⟨none, .store 1 (tP 16) (tP 14), none⟩]) (.skip)),
  []⟩
theorem is_tape_Pen_Text : IsFn Tryz.prog 74 c_tape_Pen_Text := isFn_of [([], []), ([], [4])] (by kernel_rfl)
def c_tape_Pen_Flag : CFn := ⟨9, .seq (.region [oN 4 (.mov (.con (.int .i64 0)))])
  (.seq (.seq (.region [mV 5 1])
  (.cond (tP 5) (.region [oN 4 (.mov (.con (.int .i64 1)))]) (.skip)))
  (.region [mV 6 0,
 mV 7 4,
 oN 8 (.call 40 [(tP 6), (tP 7)])])),
  []⟩
theorem is_tape_Pen_Flag : IsFn Tryz.prog 75 c_tape_Pen_Flag := isFn_of [([], []), ([], []), ([], []), ([], [])] (by kernel_rfl)
abbrev s_slices_Equal_api_Label_api_Entry_0 (v0 v1 v12 v13 : AV) : List AV := [v0, v1, undefA, undefA, .any, .any, .any, .any, .any, .any, .any, .any, v12, v13, .any, .any, .any, .any, .any, .any, .any, .any, .any, .any, .any, .any]
abbrev x_slices_Equal_api_Label_api_Entry_0  : List AV := [.any, .any, undefA, undefA, .any, .any, .any, .any, .any, .any, .any, .any, .any, .any, .any, .any, .any, .any, .any, .any, .any, .any, .any, .any, .any, .any]
abbrev l_slices_Equal_api_Label_api_Entry_0 : CC := .kill kl2_6 (.seq (.region [oN 14 (.bin .lss (tP 13) (tP 12))])
  (.seq (.cond (tP 14) (.skip) (.kill [0, 1, 12, 13, 14] (.exit 0)))
  (.seq (.block 1 (.seq (.region [mV 15 13,
 mV 5 15])
  (.seq (.region [mV 16 0,
 mV 17 5,
 oN 18 (.iaddr 2 none (tP 16) (tP 17)),
 oN 19 (.load (some 2) (tP 18)),
 mV 20 1,
 mV 21 5,
 oN 22 (.iaddr 2 none (tP 20) (tP 21)),
 oN 23 (.load (some 2) (tP 22)),
 oN 24 (.eqs true [(0, .string), (1, (.int .i64))] (tP 19) (tP 23))])
  (.cond (tP 24) (.seq (.region [oN 4 (.mov (.con (.bool false)))])
  (.ret)) (.skip)))))
  (.region [oN 25 (.bin .add (tP 13) (.con (.int .i64 1))),
 mV 13 25]))))
def c_slices_Equal_api_Label_api_Entry : CFn := ⟨26, .seq (.region [oN 4 (.mov (.con (.bool false)))])
  (.seq (.seq (.region [mV 6 0,
 oN 7 (.lenl (tP 6)),
 mV 8 1,
 oN 9 (.lenl (tP 8)),
 oN 10 (.bin .neq (tP 7) (tP 9))])
  (.cond (tP 10) (.seq (.region [oN 4 (.mov (.con (.bool false)))])
  (.ret)) (.skip)))
  (.seq (.seq (.region [mV 11 0,
 oN 12 (.lenl (tP 11)),
 oN 13 (.mov (.con (.int .i64 0)))])
  (.block 0 (.kill kl2_6 (.loop l_slices_Equal_api_Label_api_Entry_0))))
  (.seq (.region [oN 4 (.mov (.con (.bool true)))])
  (.ret)))),
  [.tmp 4]⟩
theorem is_slices_Equal_api_Label_api_Entry : IsFn Tryz.prog 76 c_slices_Equal_api_Label_api_Entry := isFn_of [([], []), ([], []), ([], []), ([], []), ([], []), (kl2_6, []), ([], []), ([0, 1, 12, 13, 14], []), ([], []), ([], []), ([], []), ([], []), ([], []), ([], []), ([], [])] (by kernel_rfl)
abbrev s_tape_Tape_number_0 (v5 v6 v12 v13 v14 : AV) : List AV := [.any, undefA, .any, .any, .any, v5, v6, .any, .any, .any, .any, .any, v12, v13, v14, .any, .any, .any, .any, .any, .any, .any, .any, .any, .any, .any, .any, .any, .any, .any, .any, .any, .any, .any, .any, .any, .any, .any, .any, .any, .any, .any, .any, .any, .any, .any, .any, .any, .any, .any]
abbrev x_tape_Tape_number_0  : List AV := [.any, undefA, .any, .any, .any, .any, .any, .any, .any, .any, .any, .any, .any, .any, .any, .any, .any, .any, .any, .any, .any, .any, .any, .any, .any, .any, .any, .any, .any, .any, .any, .any, .any, .any, .any, .any, .any, .any, .any, .any, .any, .any, .any, .any, .any, .any, .any, .any, .any, .any]
abbrev x_tape_Tape_number_1 (v5 v6 v12 v13 v14 : AV) : List AV := [.any, undefA, .any, .any, .any, v5, v6, .any, .any, .any, .any, .any, v12, v13, v14, .any, .any, .any, .any, .any, .any, .any, .any, .any, .any, .any, .any, .any, .any, .any, .any, .any, .any, .any, .any, .any, .any, .any, .any, .any, .any, .any, .any, .any, .any, .any, .any, .any, .any, .any]
abbrev l_tape_Tape_number_0 : CC := .kill kl2_7 (.seq (.region [oN 15 (.bin .lss (tP 14) (tP 13))])
  (.seq (.cond (tP 15) (.skip) (.kill [5, 6, 12, 13, 14, 15] (.exit 0)))
  (.seq (.block 1 (.seq (.region [mV 16 14,
 oN 17 (.iaddr 1 none (tP 12) (tP 14)),
 lD 18 17,
 mV 7 16,
 mV 8 18])
  (.seq (.block 2 (.seq (.region [mV 20 7,
 oN 21 (.bin .eql (tP 20) (.con (.int .i64 9))),
 mV 19 21])
  (.cond (tP 19) (.seq (.region [oN 2 (.mov (.con (.int .i64 0))),
 oN 3 (.mov (.con (.int .i64 0))),
 oN 4 (.mov (.con (.int .i64 10)))])
  (.ret)) (.seq (.region [mV 23 8,
 oN 24 (.bin .geq (tP 23) (.con (.int .u8 128))),
 mV 22 24])
  (.cond (tP 22) (.seq (.region [mV 25 5,
 mV 26 8,
 oN 27 (.bin .sub (tP 26) (.con (.int .u8 128))),
 oN 28 (.cInt .i64 (tP 27)),
 mV 29 6,
 oN 30 (.bin .mul (tP 28) (tP 29)),
 oN 31 (.bin .add (tP 25) (tP 30)),
 mV 5 31])
  (.seq (.region [mV 32 6,
 oN 33 (.bin .mul (tP 32) (.con (.int .i64 128))),
 mV 6 33])
  (.kill kl2_20 (.exit 1)))) (.seq (.region [mV 35 8,
 oN 36 (.bin .eql (tP 35) (.con (.int .u8 0))),
 mV 37 36,
 oG 38 (.mov (tP 7)) 37 true,
 oG 39 (.bin .gtr (tP 38) (.con (.int .i64 0))) 37 true,
 oN 40 (.pick (tP 37) (tP 39) (.con (.bool false))),
 mV 34 40])
  (.cond (tP 34) (.seq (.region [oN 2 (.mov (.con (.int .i64 0))),
 oN 3 (.mov (.con (.int .i64 0))),
 oN 4 (.mov (.con (.int .i64 10)))])
  (.ret)) (.skip))))))))
  (.seq (.region [mV 41 5,
 mV 42 8,
 oN 43 (.cInt .i64 (tP 42)),
 mV 44 6,
 oN 45 (.bin .mul (tP 43) (tP 44)),
 oN 46 (.bin .add (tP 41) (tP 45)),
 mV 47 7,
 oN 48 (.bin .add (tP 47) (.con (.int .i64 1))),
 mV 2 46,
 mV 3 48,
 oN 4 (.mov (.con (.int .i64 0)))])
  (.ret)))))
  (.region [oN 49 (.bin .add (tP 14) (.con (.int .i64 1))),
 mV 14 49]))))
def c_tape_Tape_number : CFn := ⟨50, .seq (.region [oN 2 (.mov (.con (.int .i64 0))),
 oN 3 (.mov (.con (.int .i64 0))),
 oN 4 (.mov (.con (.int .i64 0)))])
  (.seq (.region [oN 5 (.mov (.con (.int .i64 0))),
 oN 6 (.mov (.con (.int .i64 1)))])
  (.seq (.seq (.region [mV 9 0,
 oN 10 (.nilck (tP 9)),
 oN 11 (.faddr 0 (tP 10)),
 lD 12 11,
 oN 13 (.lenl (tP 12)),
 oN 14 (.mov (.con (.int .i64 0)))])
  (.block 0 (.kill kl2_7 (.loop l_tape_Tape_number_0))))
  (.seq (.region [oN 2 (.mov (.con (.int .i64 0))),
 oN 3 (.mov (.con (.int .i64 0))),
 oN 4 (.mov (.con (.int .i64 11)))])
  (.ret)))),
  [.tmp 2, .tmp 3, .tmp 4]⟩
theorem is_tape_Tape_number : IsFn Tryz.prog 77 c_tape_Tape_number := isFn_of [([], []), ([], []), ([], []), (kl2_7, []), ([], []), ([5, 6, 12, 13, 14, 15], []), ([], []), ([], []), ([], []), ([], []), ([], []), ([], []), ([], []), (kl2_20, []), ([], []), ([], []), ([], []), ([], []), ([], []), ([], []), ([], []), ([], [])] (by kernel_rfl)
def c_tape_Tape_fail : CFn := ⟨15, .seq (.region [oN 4 (.mov (.con (.int .i64 0)))])
  (.seq (.seq (.region [mV 5 0,
 oN 6 (.nilck (tP 5)),
 oN 7 (.faddr 1 (tP 6)),
 lD 8 7,
 oN 9 (.isnil .ifc false (tP 8))])
  (.cond (tP 9) (.region [mV 10 0,
 mV 11 1,
 oN 12 (.call 84 [(.con (.str ⟨#[116, 97, 112, 101]⟩)), (tP 11)]),
 oN 13 (.nilck (tP 10)),
 oN 14 (.faddr 1 (tP 13)),
 ⟨none, .store 1 (tP 14) (tP 12), none⟩]) (.skip)))
  (.seq (.region [oN 4 (.mov (.con (.int .i64 0)))])
  (.ret))),
  [.tmp 4]⟩
theorem is_tape_Tape_fail : IsFn Tryz.prog 78 c_tape_Tape_fail := isFn_of [([], []), ([], []), ([], []), ([], []), ([], [])] (by kernel_rfl)
abbrev s_path_Get_0 (v0 v4 v6 v7 : AV) : List AV := [v0, undefA, .any, .any, v4, .any, v6, v7, .any, .any, .any, .any, .any, .any, .any, undefA, undefA, undefA, undefA]
abbrev x_path_Get_0 (v0 v4 : AV) : List AV := [v0, undefA, .any, .any, v4, .any, .any, .any, .any, .any, .any, .any, .any, .any, .any, undefA, undefA, undefA, undefA]
abbrev l_path_Get_0 : CC := .kill kl2_2 (.seq (.region [oN 8 (.bin .lss (tP 7) (tP 6))])
  (.seq (.cond (tP 8) (.skip) (.kill [6, 7, 8] (.exit 0)))
  (.seq (.block 1 (.region [oN 9 (.take (tP 4)),
 mV 10 0,
 oN 11 (.call 54 [(tP 10), (.con (.int .i64 1048576))]),
 oN 12 (.bslice 1 false [(tP 11)]),
 oN 13 (.append 1 8 false (tP 9) (tP 12)),
 oN 4 (.take (tP 13))]))
  (.region [oN 14 (.bin .add (tP 7) (.con (.int .i64 1))),
 mV 7 14]))))
def c_path_Get : CFn := ⟨19, .seq (.region [oN 2 (.take (.con (.sl .ex []))),
 oN 3 (.mov (.con (.int .i64 0)))])
  (.seq (.region [oN 4 (.take (.con (.sl .ex [])))])
  (.seq (.seq (.region [mV 5 0,
 oN 6 (.call 54 [(tP 5), (.con (.int .i64 6))]),
 oN 7 (.mov (.con (.int .i64 0)))])
  (.block 0 (.kill kl2_2 (.loop l_path_Get_0))))
  (.seq (.seq (.region [mV 15 0,
 oN 16 (.call 56 [(tP 15)]),
 oN 17 (.isnil .ifc true (tP 16))])
  (.cond (tP 17) (.seq (.region [oN 2 (.take (.con (.sl .ex []))),
 oN 3 (.mov (.con (.int .i64 10)))])
  (.ret)) (.skip)))
  (.seq (.region [oN 18 (.take (tP 4)),
 oN 2 (.take (tP 18)),
 oN 3 (.mov (.con (.int .i64 0)))])
  (.ret))))),
  [.tmp 2, .tmp 3]⟩
theorem is_path_Get : IsFn Tryz.prog 79 c_path_Get := isFn_of [([], [0]), ([], [0]), ([], []), (kl2_2, []), ([], []), ([6, 7, 8], []), ([], [0, 5]), ([], []), ([], []), ([], [0]), ([], []), ([], [0, 1]), ([], [])] (by kernel_rfl)
abbrev s_label_Get_0 (v0 v4 v6 v7 : AV) : List AV := [v0, undefA, .any, .any, v4, .any, v6, v7, .any, .any, .any, .any, .any, .any, .any, .any, .any, .any, undefA, undefA, undefA, undefA, undefA, undefA, undefA, undefA, undefA]
abbrev x_label_Get_0 (v0 v4 : AV) : List AV := [v0, undefA, .any, .any, v4, .any, .any, .any, .any, .any, .any, .any, .any, .any, .any, .any, .any, .any, undefA, undefA, undefA, undefA, undefA, undefA, undefA, undefA, undefA]
abbrev l_label_Get_0 : CC := .kill kl2_8 (.seq (.region [oN 8 (.bin .lss (tP 7) (tP 6))])
  (.seq (.cond (tP 8) (.skip) (.kill [6, 7, 8] (.exit 0)))
  (.seq (.block 1 (.region [oN 9 (.take (tP 4)),
 mV 10 0,
 oN 11 (.call 82 [(tP 10), (.con (.int .i64 80))]),
 mV 12 0,
 oN 13 (.call 54 [(tP 12), (.con (.int .i64 3))]),
 oN 14 (.build [.str ⟨#[]⟩, .int .i64 0] [(0, 1, (tP 11)), (1, 1, (tP 13))]),
 oN 15 (.bslice 2 false [(tP 14)]),
 oN 16 (.append 2 24 false (tP 9) (tP 15)),
 oN 4 (.take (tP 16))]))
  (.region [oN 17 (.bin .add (tP 7) (.con (.int .i64 1))),
 mV 7 17]))))
def c_label_Get : CFn := ⟨27, .seq (.region [oN 2 (.take (.con (.sl .ex []))),
 oN 3 (.mov (.con (.int .i64 0)))])
  (.seq (.region [oN 4 (.take (.con (.sl .ex [])))])
  (.seq (.seq (.region [mV 5 0,
 oN 6 (.call 54 [(tP 5), (.con (.int .i64 8))]),
 oN 7 (.mov (.con (.int .i64 0)))])
  (.block 0 (.kill kl2_8 (.loop l_label_Get_0))))
  (.seq (.seq (.region [mV 18 0,
 oN 19 (.call 56 [(tP 18)]),
 oN 20 (.isnil .ifc true (tP 19)),
 mV 21 20,
 oG 22 (.mov (tP 4)) 21 false,
 oG 23 (.pcall 67 [(tP 22)]) 21 false,
 oG 24 (.un .not (tP 23)) 21 false,
 oN 25 (.pick (tP 21) (.con (.bool true)) (tP 24))])
  (.cond (tP 25) (.seq (.region [oN 2 (.take (.con (.sl .ex []))),
 oN 3 (.mov (.con (.int .i64 10)))])
  (.ret)) (.skip)))
  (.seq (.region [oN 26 (.take (tP 4)),
 oN 2 (.take (tP 26)),
 oN 3 (.mov (.con (.int .i64 0)))])
  (.ret))))),
  [.tmp 2, .tmp 3]⟩
theorem is_label_Get : IsFn Tryz.prog 80 c_label_Get := isFn_of [([], [0]), ([], [0]), ([], []), (kl2_8, []), ([], []), ([6, 7, 8], []), ([], [0, 8]), ([], []), ([], [5]), ([], [0]), ([], []), ([], [0, 1]), ([], [])] (by kernel_rfl)
abbrev s_owns_Get_0 (v0 v4 v6 v7 : AV) : List AV := [v0, undefA, .any, .any, v4, .any, v6, v7, .any, .any, .any, .any, .any, .any, .any, undefA, undefA, undefA, undefA, undefA, undefA, undefA, undefA, undefA]
abbrev x_owns_Get_0 (v0 v4 : AV) : List AV := [v0, undefA, .any, .any, v4, .any, .any, .any, .any, .any, .any, .any, .any, .any, .any, undefA, undefA, undefA, undefA, undefA, undefA, undefA, undefA, undefA]
abbrev l_owns_Get_0 : CC := .kill kl2_2 (.seq (.region [oN 8 (.bin .lss (tP 7) (tP 6))])
  (.seq (.cond (tP 8) (.skip) (.kill [6, 7, 8] (.exit 0)))
  (.seq (.block 1 (.region [oN 9 (.take (tP 4)),
 mV 10 0,
 oN 11 (.call 82 [(tP 10), (.con (.int .i64 80))]),
 oN 12 (.bslice 1 false [(tP 11)]),
 oN 13 (.append 1 16 false (tP 9) (tP 12)),
 oN 4 (.take (tP 13))]))
  (.region [oN 14 (.bin .add (tP 7) (.con (.int .i64 1))),
 mV 7 14]))))
def c_owns_Get : CFn := ⟨24, .seq (.region [oN 2 (.take (.con (.sl .ex []))),
 oN 3 (.mov (.con (.int .i64 0)))])
  (.seq (.region [oN 4 (.take (.con (.sl .ex [])))])
  (.seq (.seq (.region [mV 5 0,
 oN 6 (.call 54 [(tP 5), (.con (.int .i64 8))]),
 oN 7 (.mov (.con (.int .i64 0)))])
  (.block 0 (.kill kl2_2 (.loop l_owns_Get_0))))
  (.seq (.seq (.region [mV 15 0,
 oN 16 (.call 56 [(tP 15)]),
 oN 17 (.isnil .ifc true (tP 16)),
 mV 18 17,
 oG 19 (.mov (tP 4)) 18 false,
 oG 20 (.pcall 69 [(tP 19)]) 18 false,
 oG 21 (.un .not (tP 20)) 18 false,
 oN 22 (.pick (tP 18) (.con (.bool true)) (tP 21))])
  (.cond (tP 22) (.seq (.region [oN 2 (.take (.con (.sl .ex []))),
 oN 3 (.mov (.con (.int .i64 10)))])
  (.ret)) (.skip)))
  (.seq (.region [oN 23 (.take (tP 4)),
 oN 2 (.take (tP 23)),
 oN 3 (.mov (.con (.int .i64 0)))])
  (.ret))))),
  [.tmp 2, .tmp 3]⟩
theorem is_owns_Get : IsFn Tryz.prog 81 c_owns_Get := isFn_of [([], [0]), ([], [0]), ([], []), (kl2_2, []), ([], []), ([6, 7, 8], []), ([], [0, 5]), ([], []), ([], [5]), ([], [0]), ([], []), ([], [0, 1]), ([], [])] (by kernel_rfl)
def c_tape_Tape_Text : CFn := ⟨61, .seq (.region [oN 4 (.mov (.con (.str ⟨#[]⟩)))])
  (.seq (.seq (.region [mV 8 0,
 oN 9 (.isnil .ptr false (tP 8)),
 mV 10 9,
 oG 11 (.mov (tP 0)) 10 false,
 oG 12 (.nilck (tP 11)) 10 false,
 oG 13 (.faddr 1 (tP 12)) 10 false,
 oG 14 (.load none (tP 13)) 10 false,
 oG 15 (.isnil .ifc true (tP 14)) 10 false,
 oN 16 (.pick (tP 10) (.con (.bool true)) (tP 15))])
  (.cond (tP 16) (.seq (.region [oN 4 (.mov (.con (.str ⟨#[]⟩)))])
  (.ret)) (.skip)))
  (.seq (.region [mV 17 0,
 oN 18 (.nilck (tP 17)),
 oN 19 (.faddr 0 (tP 18)),
 lD 20 19,
 oN 5 (.take (tP 20))])
  (.seq (.region [mV 21 0,
 mV 22 1,
 oN 23 (.call 54 [(tP 21), (tP 22)]),
 mV 6 23])
  (.seq (.block 0 (.seq (.region [mV 25 0,
 oN 26 (.nilck (tP 25)),
 oN 27 (.faddr 1 (tP 26)),
 lD 28 27,
 oN 29 (.isnil .ifc true (tP 28)),
 mV 24 29])
  (.cond (tP 24) (.seq (.region [oN 4 (.mov (.con (.str ⟨#[]⟩)))])
  (.ret)) (.seq (.region [mV 31 6,
 mV 32 0,
 oN 33 (.nilck (tP 32)),
 oN 34 (.faddr 0 (tP 33)),
 lD 35 34,
 oN 36 (.lenl (tP 35)),
 oN 37 (.bin .gtr (tP 31) (tP 36)),
 mV 30 37])
  (.cond (tP 30) (.seq (.region [mV 38 0,
 oN 39 (.take (tP 5)),
 oN 40 (.nilck (tP 38)),
 oN 41 (.faddr 0 (tP 40)),
 ⟨none, .store 1 (tP 41) (tP 39), none⟩])
  (.seq (.region [mV 42 0,
 oN 43 (.call 78 [(tP 42), (.con (.int .i64 11))])])
  (.seq (.region [oN 4 (.mov (.con (.str ⟨#[]⟩)))])
  (.ret)))) (.skip))))))
  (.seq (.region [mV 44 0,
 oN 45 (.nilck (tP 44)),
 oN 46 (.faddr 0 (tP 45)),
 lD 47 46,
 mV 48 6,
 oN 49 (.slice (some 1) (tP 47) none (some (tP 48)) none),
 oN 50 (.cBytesStr (tP 49)),
 mV 7 50])
  (.seq (.region [mV 51 0,
 mV 52 0,
 oN 53 (.nilck (tP 52)),
 oN 54 (.faddr 0 (tP 53)),
 lD 55 54,
 mV 56 6,
 oN 57 (.slice (some 1) (tP 55) (some (tP 56)) none none),
 oN 58 (.nilck (tP 51)),
 oN 59 (.faddr 0 (tP 58)),
 ⟨none, .store 1 (tP 59) (tP 57), none⟩])
  (.seq (.region [mV 60 7,
 mV 4 60])
  (.ret)))))))),
  [.tmp 4]⟩
theorem is_tape_Tape_Text : IsFn Tryz.prog 82 c_tape_Tape_Text := isFn_of [([], []), ([], []), ([], []), ([], []), ([], [4]), ([], []), ([], []), ([], []), ([], []), ([], []), ([], [1]), ([], []), ([], []), ([], []), ([], []), ([], []), ([], []), ([], [])] (by kernel_rfl)
def c_tape_Tape_Flag : CFn := ⟨6, .seq (.region [oN 2 (.mov (.con (.bool false)))])
  (.seq (.region [mV 3 0,
 oN 4 (.call 54 [(tP 3), (.con (.int .i64 1))]),
 oN 5 (.bin .eql (tP 4) (.con (.int .i64 1))),
 mV 2 5])
  (.ret)),
  [.tmp 2]⟩
theorem is_tape_Tape_Flag : IsFn Tryz.prog 83 c_tape_Tape_Flag := isFn_of [([], []), ([], []), ([], [])] (by kernel_rfl)
def c_fault_New : CFn := ⟨8, .seq (.region [oN 4 (.mov (.con (.nili)))])
  (.seq (.region [mV 5 0,
 mV 6 1,
 oN 7 (.call 58 [(tP 5), (tP 6), (.con (.nili))]),
 mV 4 7])
  (.ret)),
  [.tmp 4]⟩
theorem is_fault_New : IsFn Tryz.prog 84 c_fault_New := isFn_of [([], []), ([], []), ([], [])] (by kernel_rfl)
abbrev s_regencyref05_Ahead_0 (v2 v3 v5 : AV) : List AV := [.any, .any, v2, v3, .any, v5, .any, .any, .any, .any, .any, .any, .any, .any, .any, .any, .any, .any, .any, .any, .any, .any, .any, .any, .any, .any, .any, .any, .any, .any, .any, .any, .any, .any, .any, .any, .any, .any, .any, .any, .any, .any, .any, .any, .any, .any, .any, .any, .any, .any, .any, .any, .any, .any, .any, .any, .any, .any, .any]
abbrev l_regencyref05_Ahead_0 : CC := .kill kl2_9 (.seq (.block 1 (.seq (.seq (.region [mV 8 5,
 oN 9 (.faddr 0 (tP 2)),
 lD 10 9,
 oN 11 (.lenl (tP 10)),
 oN 12 (.bin .eql (tP 8) (tP 11)),
 mV 13 12,
 oG 14 (.mov (tP 5)) 13 false,
 oG 15 (.faddr 0 (tP 3)) 13 false,
 oG 16 (.load none (tP 15)) 13 false,
 oG 17 (.lenl (tP 16)) 13 false,
 oG 18 (.bin .eql (tP 14) (tP 17)) 13 false,
 oN 19 (.pick (tP 13) (.con (.bool true)) (tP 18))])
  (.cond (tP 19) (.seq (.seq (.region [oN 20 (.faddr 0 (tP 2)),
 lD 21 20,
 oN 22 (.lenl (tP 21)),
 oN 23 (.faddr 0 (tP 3)),
 lD 24 23,
 oN 25 (.lenl (tP 24)),
 oN 26 (.bin .neq (tP 22) (tP 25))])
  (.cond (tP 26) (.seq (.region [mV 27 5,
 oN 28 (.faddr 0 (tP 2)),
 lD 29 28,
 oN 30 (.lenl (tP 29)),
 oN 31 (.bin .eql (tP 27) (tP 30)),
 mV 4 31])
  (.ret)) (.skip)))
  (.seq (.region [oN 32 (.faddr 1 (tP 2)),
 lD 33 32,
 oN 34 (.faddr 1 (tP 3)),
 lD 35 34,
 oN 36 (.bin .lss (tP 33) (tP 35)),
 mV 4 36])
  (.ret))) (.skip)))
  (.seq (.region [oN 37 (.faddr 0 (tP 2)),
 lD 38 37,
 mV 39 5,
 oN 40 (.iaddr 1 none (tP 38) (tP 39)),
 lD 41 40,
 oN 42 (.faddr 0 (tP 3)),
 lD 43 42,
 mV 44 5,
 oN 45 (.iaddr 1 none (tP 43) (tP 44)),
 lD 46 45,
 oN 47 (.bin .neq (tP 41) (tP 46))])
  (.cond (tP 47) (.seq (.region [oN 48 (.faddr 0 (tP 2)),
 lD 49 48,
 mV 50 5,
 oN 51 (.iaddr 1 none (tP 49) (tP 50)),
 lD 52 51,
 oN 53 (.faddr 0 (tP 3)),
 lD 54 53,
 mV 55 5,
 oN 56 (.iaddr 1 none (tP 54) (tP 55)),
 lD 57 56,
 oN 58 (.bin .lss (tP 52) (tP 57)),
 mV 4 58])
  (.ret)) (.skip)))))
  (.region [mV 6 5,
 oN 7 (.bin .add (tP 6) (.con (.int .i64 1))),
 mV 5 7]))
def c_regencyref05_Ahead : CFn := ⟨59, .seq (.region [oN 2 (.box (tP 0)),
 oN 3 (.box (tP 1)),
 oN 4 (.mov (.con (.bool false)))])
  (.seq (.region [oN 5 (.mov (.con (.int .i64 0)))])
  (.block 0 (.kill kl2_9 (.loop l_regencyref05_Ahead_0)))),
  [.tmp 4]⟩
theorem is_regencyref05_Ahead : IsFn Tryz.prog 91 c_regencyref05_Ahead := isFn_of [([], []), ([], []), (kl2_9, []), ([], []), ([], []), ([], []), ([], []), ([], []), ([], []), ([], []), ([], []), ([], []), ([], [])] (by kernel_rfl)
def c_regencyref01_Num : CFn := ⟨5, .seq (.region [oN 2 (.mov (.con (.str ⟨#[]⟩)))])
  (.seq (.region [mV 3 0,
 oN 4 (.pcall 101 [(tP 3)]),
 mV 2 4])
  (.ret)),
  [.tmp 2]⟩
theorem is_regencyref01_Num : IsFn Tryz.prog 92 c_regencyref01_Num := isFn_of [([], []), ([], [1]), ([], [])] (by kernel_rfl)
def c_slices_ContainsFunc_int_int : CFn := ⟨9, .seq (.region [oN 4 (.mov (.con (.bool false)))])
  (.seq (.region [oN 5 (.take (tP 0)),
 mV 6 1,
 oN 7 (.call 102 [(tP 5), (tP 6)]),
 oN 8 (.bin .geq (tP 7) (.con (.int .i64 0))),
 mV 4 8])
  (.ret)),
  [.tmp 4]⟩
theorem is_slices_ContainsFunc_int_int : IsFn Tryz.prog 93 c_slices_ContainsFunc_int_int := isFn_of [([], []), ([], [0]), ([], [])] (by kernel_rfl)
def c_path_Right_1 : CFn := ⟨6, .seq (.region [oN 2 (.mov (.con (.bool false)))])
  (.seq (.region [mV 3 0,
 oN 4 (.pcall 95 [(tP 3)]),
 oN 5 (.un .not (tP 4)),
 mV 2 5])
  (.ret)),
  [.tmp 2]⟩
theorem is_path_Right_1 : IsFn Tryz.prog 94 c_path_Right_1 := isFn_of [([], []), ([], [1]), ([], [])] (by kernel_rfl)
def c_path_number : CFn := ⟨9, .seq (.region [oN 2 (.mov (.con (.bool false)))])
  (.seq (.region [mV 3 0,
 oN 4 (.bin .geq (tP 3) (.con (.int .i64 0))),
 mV 5 4,
 oG 6 (.mov (tP 0)) 5 true,
 oG 7 (.bin .leq (tP 6) (.con (.int .i64 1048576))) 5 true,
 oN 8 (.pick (tP 5) (tP 7) (.con (.bool false))),
 mV 2 8])
  (.ret)),
  [.tmp 2]⟩
theorem is_path_number : IsFn Tryz.prog 95 c_path_number := isFn_of [([], []), ([], []), ([], [])] (by kernel_rfl)
def c_label_at : CFn := ⟨9, .seq (.region [oN 2 (.box (tP 0)),
 oN 4 (.mov (.con (.int .i64 0)))])
  (.seq (.region [oN 5 (.faddr 0 (tP 2)),
 lD 6 5,
 mV 7 1,
 oN 8 (.pcall 103 [(tP 6), (tP 7)]),
 mV 4 8])
  (.ret)),
  [.tmp 4]⟩
theorem is_label_at : IsFn Tryz.prog 96 c_label_at := isFn_of [([], []), ([], [3]), ([], [])] (by kernel_rfl)
abbrev l_cats_Parse_1 : CC := .block 1 (.seq (.region [mV 38 11,
 oN 39 (.pcall 109 [(tP 38), (.con (.int .i64 1048576))]),
 mV 37 39,
 oN 40 (.extract 37 0),
 oN 41 (.extract 37 1),
 mV 12 40,
 mV 13 41])
  (.seq (.seq (.region [mV 42 13,
 oN 43 (.un .not (tP 42)),
 mV 44 43,
 oG 45 (.load none (tP 10)) 44 false,
 oG 46 (.lenl (tP 45)) 44 false,
 oG 47 (.bin .eql (tP 46) (.con (.int .i64 6))) 44 false,
 oN 48 (.pick (tP 44) (.con (.bool true)) (tP 47))])
  (.cond (tP 48) (.seq (.region [⟨none, .store 1 (tP 2) (.con (.sl .ex [])), none⟩,
 ⟨none, .store 1 (tP 3) (.con (.int .i64 0)), none⟩,
 ⟨none, .store 1 (tP 4) (.con (.bool false)), none⟩])
  (.ret)) (.skip)))
  (.region [oN 49 (.ltake (tP 10)),
 mV 50 12,
 oN 51 (.bslice 1 false [(tP 50)]),
 oN 52 (.append 1 8 false (tP 49) (tP 51)),
 ⟨none, .store 1 (tP 10) (tP 52), none⟩])))
abbrev l_cats_Parse_0 : CC := .region [mV 11 36]
def c_cats_Parse : CFn := ⟨55, .seq (.region [oN 2 (.alloc [.sl .ex []]),
 oN 3 (.alloc [.int .i64 0]),
 oN 4 (.alloc [.bool false])])
  (.seq (.region [mV 15 0,
 oN 16 (.pcall 108 [(tP 15), (.con (.str ⟨#[47]⟩))]),
 mV 14 16,
 oN 17 (.extract 14 0),
 oN 18 (.extract 14 1),
 oN 19 (.extract 14 2),
 mV 5 17,
 mV 6 18,
 mV 7 19])
  (.seq (.region [mV 21 6,
 oN 22 (.pcall 109 [(tP 21), (.con (.int .i64 65535))]),
 mV 20 22,
 oN 23 (.extract 20 0),
 oN 24 (.extract 20 1),
 mV 8 23,
 mV 9 24])
  (.seq (.seq (.region [mV 25 7,
 oN 26 (.un .not (tP 25)),
 mV 27 26,
 oG 28 (.mov (tP 9)) 27 false,
 oG 29 (.un .not (tP 28)) 27 false,
 oN 30 (.pick (tP 27) (.con (.bool true)) (tP 29))])
  (.cond (tP 30) (.seq (.region [⟨none, .store 1 (tP 2) (.con (.sl .ex [])), none⟩,
 ⟨none, .store 1 (tP 3) (.con (.int .i64 0)), none⟩,
 ⟨none, .store 1 (tP 4) (.con (.bool false)), none⟩])
  (.ret)) (.skip)))
  (.seq (.seq (.region [mV 31 5,
 oN 32 (.bin .eql (tP 31) (.con (.str ⟨#[]⟩)))])
  (.cond (tP 32) (.seq (.region [mV 33 8,
 ⟨none, .store 1 (tP 2) (.con (.sl .ex [])), none⟩,
 ⟨none, .store 1 (tP 3) (tP 33), none⟩,
 ⟨none, .store 1 (tP 4) (.con (.bool true)), none⟩])
  (.ret)) (.skip)))
  (.seq (.region [oN 10 (.alloc [.sl .ex []])])
  (.seq (.seq (.region [mV 34 5,
 oN 35 (.call 110 [(tP 34), (.con (.str ⟨#[46]⟩))])])
  (.block 0 (.rsplit (tP 35) 36 l_cats_Parse_0 l_cats_Parse_1)))
  (.seq (.region [lD 53 10,
 mV 54 8,
 ⟨none, .store 1 (tP 2) (tP 53), none⟩,
 ⟨none, .store 1 (tP 3) (tP 54), none⟩,
 ⟨none, .store 1 (tP 4) (.con (.bool true)), none⟩])
  (.ret)))))))),
  [.cell 2 none, .cell 3 none, .cell 4 none]⟩
theorem is_cats_Parse : IsFn Tryz.prog 98 c_cats_Parse := isFn_of [([], []), ([], [1]), ([], [1]), ([], []), ([], []), ([], []), ([], []), ([], []), ([], []), ([], []), ([], []), ([], []), ([], [1]), ([], []), ([], []), ([], []), ([], [0]), ([], []), ([], [])] (by kernel_rfl)
abbrev s_regencyref01_num_0 (v0 v3 : AV) : List AV := [v0, undefA, .any, v3, undefA, .any, .any, .any, .any, .any, .any, .any, .any, .any, .any, .any, .any, .any, .any, .any, .any, undefA, undefA, undefA, undefA, undefA, undefA, undefA, undefA, undefA, undefA, undefA, undefA, undefA, undefA, undefA, undefA, undefA, undefA, undefA, undefA, undefA, undefA, undefA, undefA, undefA, undefA, undefA]
abbrev s_regencyref01_num_1 (v0 v4 : AV) : List AV := [v0, undefA, .any, undefA, v4, .any, .any, undefA, undefA, undefA, undefA, undefA, undefA, undefA, undefA, undefA, undefA, undefA, undefA, undefA, undefA, undefA, undefA, undefA, undefA, undefA, undefA, undefA, undefA, undefA, .any, .any, .any, .any, .any, .any, .any, .any, .any, .any, .any, .any, undefA, undefA, undefA, undefA, undefA, undefA]
abbrev x_regencyref01_num_0 (v0 v3 : AV) : List AV := [v0, undefA, .any, v3, undefA, .any, .any, .any, .any, .any, .any, .any, .any, .any, .any, .any, .any, .any, .any, .any, .any, undefA, undefA, undefA, undefA, undefA, undefA, undefA, undefA, undefA, undefA, undefA, undefA, undefA, undefA, undefA, undefA, undefA, undefA, undefA, undefA, undefA, undefA, undefA, undefA, undefA, undefA, undefA]
abbrev x_regencyref01_num_2 (v0 v4 : AV) : List AV := [v0, undefA, .any, undefA, v4, .any, .any, undefA, undefA, undefA, undefA, undefA, undefA, undefA, undefA, undefA, undefA, undefA, undefA, undefA, undefA, undefA, undefA, undefA, undefA, undefA, undefA, undefA, undefA, undefA, .any, .any, .any, .any, .any, .any, .any, .any, .any, .any, .any, .any, undefA, undefA, undefA, undefA, undefA, undefA]
abbrev l_regencyref01_num_1 : CC := .kill kl2_10 (.seq (.seq (.region [mV 30 0,
 oN 31 (.bin .geq (tP 30) (.con (.int .i64 10)))])
  (.cond (tP 31) (.skip) (.kill [30, 31] (.exit 2))))
  (.block 3 (.seq (.region [mV 32 0,
 oN 33 (.bin .rem (tP 32) (.con (.int .i64 10))),
 mV 34 0,
 oN 35 (.bin .rem (tP 34) (.con (.int .i64 10))),
 oN 36 (.bin .add (tP 35) (.con (.int .i64 1))),
 oN 37 (.slice none (.con (.str ⟨#[48, 49, 50, 51, 52, 53, 54, 55, 56, 57]⟩)) (some (tP 33)) (some (tP 36)) none),
 mV 38 4,
 oN 39 (.bin .add (tP 37) (tP 38)),
 mV 4 39])
  (.region [mV 40 0,
 oN 41 (.bin .quo (tP 40) (.con (.int .i64 10))),
 mV 0 41]))))
abbrev l_regencyref01_num_0 : CC := .kill kl2_11 (.seq (.seq (.region [mV 7 0,
 oN 8 (.bin .leq (tP 7) (.con (.int .i64 (-10))))])
  (.cond (tP 8) (.skip) (.kill [7, 8] (.exit 0))))
  (.block 1 (.seq (.region [mV 9 0,
 oN 10 (.bin .rem (tP 9) (.con (.int .i64 10))),
 oN 11 (.un .neg (tP 10)),
 mV 12 0,
 oN 13 (.bin .rem (tP 12) (.con (.int .i64 10))),
 oN 14 (.un .neg (tP 13)),
 oN 15 (.bin .add (tP 14) (.con (.int .i64 1))),
 oN 16 (.slice none (.con (.str ⟨#[48, 49, 50, 51, 52, 53, 54, 55, 56, 57]⟩)) (some (tP 11)) (some (tP 15)) none),
 mV 17 3,
 oN 18 (.bin .add (tP 16) (tP 17)),
 mV 3 18])
  (.region [mV 19 0,
 oN 20 (.bin .quo (tP 19) (.con (.int .i64 10))),
 mV 0 20]))))
def c_regencyref01_num : CFn := ⟨48, .seq (.region [oN 2 (.mov (.con (.str ⟨#[]⟩)))])
  (.seq (.seq (.region [mV 5 0,
 oN 6 (.bin .lss (tP 5) (.con (.int .i64 0)))])
  (.cond (tP 6) (.seq (.region [oN 3 (.mov (.con (.str ⟨#[]⟩)))])
  (.seq (.block 0 (.kill kl2_11 (.loop l_regencyref01_num_0)))
  (.seq (.region [mV 21 0,
 oN 22 (.un .neg (tP 21)),
 mV 23 0,
 oN 24 (.un .neg (tP 23)),
 oN 25 (.bin .add (tP 24) (.con (.int .i64 1))),
 oN 26 (.slice none (.con (.str ⟨#[48, 49, 50, 51, 52, 53, 54, 55, 56, 57]⟩)) (some (tP 22)) (some (tP 25)) none),
 oN 27 (.bin .add (.con (.str ⟨#[45]⟩)) (tP 26)),
 mV 28 3,
 oN 29 (.bin .add (tP 27) (tP 28)),
 mV 2 29])
  (.ret)))) (.skip)))
  (.seq (.region [oN 4 (.mov (.con (.str ⟨#[]⟩)))])
  (.seq (.block 2 (.kill kl2_10 (.loop l_regencyref01_num_1)))
  (.seq (.region [mV 42 0,
 mV 43 0,
 oN 44 (.bin .add (tP 43) (.con (.int .i64 1))),
 oN 45 (.slice none (.con (.str ⟨#[48, 49, 50, 51, 52, 53, 54, 55, 56, 57]⟩)) (some (tP 42)) (some (tP 44)) none),
 mV 46 4,
 oN 47 (.bin .add (tP 45) (tP 46)),
 mV 2 47])
  (.ret))))),
  [.tmp 2]⟩
theorem is_regencyref01_num : IsFn Tryz.prog 101 c_regencyref01_num := isFn_of [([], []), ([], []), ([], []), (kl2_11, []), ([], []), ([7, 8], []), ([], []), ([], []), ([], []), ([], []), ([], []), (kl2_10, []), ([], []), ([30, 31], []), ([], []), ([], []), ([], []), ([], [])] (by kernel_rfl)
abbrev s_slices_IndexFunc_int_int_0 (v0 v1 v7 v8 : AV) : List AV := [v0, v1, undefA, undefA, .any, .any, .any, v7, v8, .any, .any, .any, .any, .any, .any, .any, .any, .any, .any]
abbrev x_slices_IndexFunc_int_int_0  : List AV := [.any, .any, undefA, undefA, .any, .any, .any, .any, .any, .any, .any, .any, .any, .any, .any, .any, .any, .any, .any]
abbrev l_slices_IndexFunc_int_int_0 : CC := .kill kl2_0 (.seq (.region [oN 9 (.bin .lss (tP 8) (tP 7))])
  (.seq (.cond (tP 9) (.skip) (.kill [0, 1, 7, 8, 9] (.exit 0)))
  (.seq (.block 1 (.seq (.region [mV 10 8,
 mV 5 10])
  (.seq (.region [mV 11 1,
 mV 12 0,
 mV 13 5,
 oN 14 (.iaddr 1 none (tP 12) (tP 13)),
 lD 15 14,
 oN 16 (.callv (tP 11) [(tP 15)])])
  (.cond (tP 16) (.seq (.region [mV 17 5,
 mV 4 17])
  (.ret)) (.skip)))))
  (.region [oN 18 (.bin .add (tP 8) (.con (.int .i64 1))),
 mV 8 18]))))
def c_slices_IndexFunc_int_int : CFn := ⟨19, .seq (.region [oN 4 (.mov (.con (.int .i64 0)))])
  (.seq (.seq (.region [mV 6 0,
 oN 7 (.lenl (tP 6)),
 oN 8 (.mov (.con (.int .i64 0)))])
  (.block 0 (.kill kl2_0 (.loop l_slices_IndexFunc_int_int_0))))
  (.seq (.region [oN 4 (.mov (.con (.int .i64 (-1))))])
  (.ret))),
  [.tmp 4]⟩
theorem is_slices_IndexFunc_int_int : IsFn Tryz.prog 102 c_slices_IndexFunc_int_int := isFn_of [([], []), ([], []), (kl2_0, []), ([], []), ([0, 1, 7, 8, 9], []), ([], []), ([], []), ([], []), ([], []), ([], []), ([], []), ([], [])] (by kernel_rfl)
def c_cats_Compare : CFn := ⟨47, .seq (.region [oN 4 (.mov (.con (.int .i64 0)))])
  (.seq (.region [mV 12 0,
 oN 13 (.pcall 98 [(tP 12)]),
 oN 11 (.take (tP 13)),
 oN 14 (.extract 11 0),
 oN 15 (.extract 11 1),
 oN 16 (.extract 11 2),
 oN 5 (.take (tP 14)),
 mV 6 15,
 mV 7 16])
  (.seq (.region [mV 18 1,
 oN 19 (.pcall 98 [(tP 18)]),
 oN 17 (.take (tP 19)),
 oN 20 (.extract 17 0),
 oN 21 (.extract 17 1),
 oN 22 (.extract 17 2),
 oN 8 (.take (tP 20)),
 mV 9 21,
 mV 10 22])
  (.seq (.block 0 (.seq (.region [mV 24 7,
 oN 25 (.un .not (tP 24)),
 mV 26 25,
 oG 27 (.mov (tP 10)) 26 true,
 oG 28 (.un .not (tP 27)) 26 true,
 oN 29 (.pick (tP 26) (tP 28) (.con (.bool false))),
 mV 23 29])
  (.cond (tP 23) (.seq (.region [mV 30 0,
 mV 31 1,
 oN 32 (.pcall 111 [(tP 30), (tP 31)]),
 mV 4 32])
  (.ret)) (.seq (.region [mV 34 7,
 oN 35 (.un .not (tP 34)),
 mV 33 35])
  (.cond (tP 33) (.seq (.region [oN 4 (.mov (.con (.int .i64 1)))])
  (.ret)) (.seq (.region [mV 37 10,
 oN 38 (.un .not (tP 37)),
 mV 36 38])
  (.cond (tP 36) (.seq (.region [oN 4 (.mov (.con (.int .i64 (-1))))])
  (.ret)) (.skip))))))))
  (.seq (.region [oN 39 (.take (tP 5)),
 oN 40 (.take (tP 8)),
 oN 41 (.pcall 113 [(tP 39), (tP 40)]),
 mV 42 6,
 mV 43 9,
 oN 44 (.pcall 114 [(tP 42), (tP 43)]),
 oN 45 (.bslice 1 false [(tP 41), (tP 44)]),
 oN 46 (.pcall 112 [(tP 45)]),
 mV 4 46])
  (.ret))))),
  [.tmp 4]⟩
theorem is_cats_Compare : IsFn Tryz.prog 103 c_cats_Compare := isFn_of [([], []), ([], [1, 2, 6]), ([], [1, 2, 6]), ([], []), ([], [2]), ([], []), ([], []), ([], []), ([], []), ([], []), ([], []), ([], []), ([], [0, 1, 2, 5, 7]), ([], [])] (by kernel_rfl)
abbrev s_slices_DeleteFunc_string_string_0 (v0 v1 v5 v6 : AV) : List AV := [v0, v1, undefA, undefA, .any, v5, v6, .any, .any, .any, .any, .any, .any, undefA, .any, .any, .any, .any, .any, .any, .any, .any, .any, .any, .any, .any, .any, .any, .any, .any, .any, .any, .any, .any, .any, .any, undefA, undefA, undefA, undefA, undefA, undefA]
abbrev x_slices_DeleteFunc_string_string_0 (v0 v5 : AV) : List AV := [v0, .any, undefA, undefA, .any, v5, .any, .any, .any, .any, .any, .any, .any, undefA, .any, .any, .any, .any, .any, .any, .any, .any, .any, .any, .any, .any, .any, .any, .any, .any, .any, .any, .any, .any, .any, .any, undefA, undefA, undefA, undefA, undefA, undefA]
abbrev l_slices_DeleteFunc_string_string_0 : CC := .kill kl2_12 (.seq (.seq (.region [mV 16 6,
 mV 17 0,
 oN 18 (.lenl (tP 17)),
 oN 19 (.bin .lss (tP 16) (tP 18))])
  (.cond (tP 19) (.skip) (.kill [1, 6, 16, 17, 18, 19] (.exit 0))))
  (.seq (.block 1 (.seq (.region [mV 22 0,
 mV 23 6,
 oN 24 (.iaddr 1 none (tP 22) (tP 23)),
 lD 25 24,
 mV 7 25])
  (.seq (.region [mV 26 1,
 mV 27 7,
 oN 28 (.callv (tP 26) [(tP 27)]),
 oN 29 (.un .not (tP 28))])
  (.cond (tP 29) (.seq (.region [mV 30 0,
 mV 31 5,
 mV 32 7,
 oN 33 (.iaddr 1 none (tP 30) (tP 31)),
 ⟨none, .store 1 (tP 33) (tP 32), none⟩])
  (.region [mV 34 5,
 oN 35 (.bin .add (tP 34) (.con (.int .i64 1))),
 mV 5 35])) (.skip)))))
  (.region [mV 20 6,
 oN 21 (.bin .add (tP 20) (.con (.int .i64 1))),
 mV 6 21])))
def c_slices_DeleteFunc_string_string : CFn := ⟨42, .seq (.region [oN 4 (.take (.con (.sl .ex [])))])
  (.seq (.region [mV 8 0,
 mV 9 1,
 oN 10 (.call 115 [(tP 8), (tP 9)]),
 mV 5 10])
  (.seq (.seq (.region [mV 11 5,
 oN 12 (.bin .eql (tP 11) (.con (.int .i64 (-1))))])
  (.cond (tP 12) (.seq (.region [oN 13 (.take (tP 0)),
 oN 4 (.take (tP 13))])
  (.ret)) (.skip)))
  (.seq (.seq (.region [mV 14 5,
 oN 15 (.bin .add (tP 14) (.con (.int .i64 1))),
 mV 6 15])
  (.block 0 (.kill kl2_12 (.loop l_slices_DeleteFunc_string_string_0))))
  (.seq (.region [mV 36 0,
 mV 37 5,
 oN 38 (.slice (some 1) (tP 36) (some (tP 37)) none none),
 ⟨none, .clr [.str ⟨#[]⟩] (tP 38), none⟩])
  (.seq (.region [oN 39 (.take (tP 0)),
 mV 40 5,
 oN 41 (.slice (some 1) (tP 39) none (some (tP 40)) none),
 oN 4 (.take (tP 41))])
  (.ret)))))),
  [.tmp 4]⟩
theorem is_slices_DeleteFunc_string_string : IsFn Tryz.prog 104 c_slices_DeleteFunc_string_string := isFn_of [([], [0]), ([], []), ([], []), ([], [0, 1]), ([], []), ([], []), (kl2_12, []), ([], []), ([1, 6, 16, 17, 18, 19], []), ([], []), ([], []), ([], []), ([], []), ([], []), ([], []), ([], [0, 3]), ([], [])] (by kernel_rfl)
def c_cats_Sort_1 : CFn := ⟨6, .seq (.region [oN 2 (.mov (.con (.bool false)))])
  (.seq (.region [mV 3 0,
 oN 4 (.pcall 70 [(tP 3)]),
 oN 5 (.un .not (tP 4)),
 mV 2 5])
  (.ret)),
  [.tmp 2]⟩
theorem is_cats_Sort_1 : IsFn Tryz.prog 105 c_cats_Sort_1 := isFn_of [([], []), ([], [1]), ([], [])] (by kernel_rfl)
def c_slices_SortFunc_string_string : CFn := ⟨14, .seq (.region [mV 5 0,
 oN 6 (.lenl (tP 5)),
 mV 4 6])
  (.region [oN 7 (.take (tP 0)),
 mV 8 4,
 mV 9 4,
 oN 10 (.cInt .u64 (tP 9)),
 oN 11 (.pcall 117 [(tP 10)]),
 mV 12 1,
 oN 13 (.call 116 [(tP 7), (.con (.int .i64 0)), (tP 8), (tP 11), (tP 12)])]),
  []⟩
theorem is_slices_SortFunc_string_string : IsFn Tryz.prog 106 c_slices_SortFunc_string_string := isFn_of [([], []), ([], [0, 4])] (by kernel_rfl)
abbrev s_slices_Compact_string_string_0 (v0 v3 : AV) : List AV := [v0, undefA, .any, v3, .any, .any, .any, .any, .any, undefA, .any, .any, .any, .any, .any, .any, .any, .any, .any, .any, .any, .any, .any, .any, .any, .any, .any, .any, .any, .any, .any, .any, .any, .any, .any, .any, .any, .any, .any, .any, .any, .any, .any, .any, .any, .any, .any, .any, .any, .any, .any, .any, .any, .any, .any, .any, .any, .any, .any, .any, undefA]
abbrev s_slices_Compact_string_string_1 (v0 v3 v4 v5 : AV) : List AV := [v0, undefA, .any, v3, v4, v5, .any, .any, .any, undefA, .any, .any, .any, .any, .any, .any, .any, .any, .any, .any, .any, .any, .any, .any, .any, .any, .any, .any, .any, .any, .any, .any, .any, .any, .any, .any, .any, .any, .any, .any, .any, .any, .any, .any, .any, .any, .any, .any, .any, .any, .any, .any, .any, .any, .any, .any, .any, .any, .any, .any, undefA]
abbrev x_slices_Compact_string_string_0 (v0 : AV) : List AV := [v0, undefA, .any, .any, .any, .any, .any, .any, .any, undefA, .any, .any, .any, .any, .any, .any, .any, .any, .any, .any, .any, .any, .any, .any, .any, .any, .any, .any, .any, .any, .any, .any, .any, .any, .any, .any, .any, .any, .any, .any, .any, .any, .any, .any, .any, .any, .any, .any, .any, .any, .any, .any, .any, .any, .any, .any, .any, .any, .any, .any, undefA]
abbrev x_slices_Compact_string_string_2 (v0 v3 : AV) : List AV := [v0, undefA, .any, v3, .any, .any, .any, .any, .any, undefA, .any, .any, .any, .any, .any, .any, .any, .any, .any, .any, .any, .any, .any, .any, .any, .any, .any, .any, .any, .any, .any, .any, .any, .any, .any, .any, .any, .any, .any, .any, .any, .any, .any, .any, .any, .any, .any, .any, .any, .any, .any, .any, .any, .any, .any, .any, .any, .any, .any, .any, undefA]
abbrev l_slices_Compact_string_string_1 : CC := .kill kl2_13 (.seq (.seq (.region [mV 29 5,
 mV 30 4,
 oN 31 (.lenl (tP 30)),
 oN 32 (.bin .lss (tP 29) (tP 31))])
  (.cond (tP 32) (.skip) (.kill [4, 5, 29, 30, 31, 32] (.exit 2))))
  (.seq (.block 3 (.seq (.region [mV 35 4,
 mV 36 5,
 oN 37 (.iaddr 1 none (tP 35) (tP 36)),
 lD 38 37,
 mV 39 4,
 mV 40 5,
 oN 41 (.bin .sub (tP 40) (.con (.int .i64 1))),
 oN 42 (.iaddr 1 none (tP 39) (tP 41)),
 lD 43 42,
 oN 44 (.bin .neq (tP 38) (tP 43))])
  (.cond (tP 44) (.seq (.region [mV 45 0,
 mV 46 3,
 mV 47 4,
 mV 48 5,
 oN 49 (.iaddr 1 none (tP 47) (tP 48)),
 lD 50 49,
 oN 51 (.iaddr 1 none (tP 45) (tP 46)),
 ⟨none, .store 1 (tP 51) (tP 50), none⟩])
  (.region [mV 52 3,
 oN 53 (.bin .add (tP 52) (.con (.int .i64 1))),
 mV 3 53])) (.skip))))
  (.region [mV 33 5,
 oN 34 (.bin .add (tP 33) (.con (.int .i64 1))),
 mV 5 34])))
abbrev l_slices_Compact_string_string_0 : CC := .kill kl2_14 (.seq (.seq (.region [mV 10 3,
 mV 11 0,
 oN 12 (.lenl (tP 11)),
 oN 13 (.bin .lss (tP 10) (tP 12))])
  (.cond (tP 13) (.skip) (.kill [3, 10, 11, 12, 13] (.exit 0))))
  (.seq (.block 1 (.seq (.region [mV 16 0,
 mV 17 3,
 oN 18 (.iaddr 1 none (tP 16) (tP 17)),
 lD 19 18,
 mV 20 0,
 mV 21 3,
 oN 22 (.bin .sub (tP 21) (.con (.int .i64 1))),
 oN 23 (.iaddr 1 none (tP 20) (tP 22)),
 lD 24 23,
 oN 25 (.bin .eql (tP 19) (tP 24))])
  (.cond (tP 25) (.seq (.region [mV 26 0,
 mV 27 3,
 oN 28 (.slice (some 1) (tP 26) (some (tP 27)) none none),
 oN 4 (.take (tP 28))])
  (.seq (.seq (.region [oN 5 (.mov (.con (.int .i64 1)))])
  (.block 2 (.kill kl2_13 (.loop l_slices_Compact_string_string_1))))
  (.seq (.region [mV 54 0,
 mV 55 3,
 oN 56 (.slice (some 1) (tP 54) (some (tP 55)) none none),
 ⟨none, .clr [.str ⟨#[]⟩] (tP 56), none⟩])
  (.seq (.region [oN 57 (.take (tP 0)),
 mV 58 3,
 oN 59 (.slice (some 1) (tP 57) none (some (tP 58)) none),
 oN 2 (.take (tP 59))])
  (.ret))))) (.skip))))
  (.region [mV 14 3,
 oN 15 (.bin .add (tP 14) (.con (.int .i64 1))),
 mV 3 15])))
def c_slices_Compact_string_string : CFn := ⟨61, .seq (.region [oN 2 (.take (.con (.sl .ex [])))])
  (.seq (.seq (.region [mV 6 0,
 oN 7 (.lenl (tP 6)),
 oN 8 (.bin .lss (tP 7) (.con (.int .i64 2)))])
  (.cond (tP 8) (.seq (.region [oN 9 (.take (tP 0)),
 oN 2 (.take (tP 9))])
  (.ret)) (.skip)))
  (.seq (.seq (.region [oN 3 (.mov (.con (.int .i64 1)))])
  (.block 0 (.kill kl2_14 (.loop l_slices_Compact_string_string_0))))
  (.seq (.region [oN 60 (.take (tP 0)),
 oN 2 (.take (tP 60))])
  (.ret)))),
  [.tmp 2]⟩
theorem is_slices_Compact_string_string : IsFn Tryz.prog 107 c_slices_Compact_string_string := isFn_of [([], [0]), ([], []), ([], [0, 1]), ([], []), ([], []), (kl2_14, []), ([], []), ([3, 10, 11, 12, 13], []), ([], []), ([], [3]), ([], []), (kl2_13, []), ([], []), ([4, 5, 29, 30, 31, 32], []), ([], []), ([], []), ([], []), ([], []), ([], []), ([], [0, 3]), ([], []), ([], []), ([], [0, 1]), ([], [])] (by kernel_rfl)
def c_strings_Cut : CFn := ⟨13, .seq (.region [oN 4 (.mov (.con (.str ⟨#[]⟩))),
 oN 5 (.mov (.con (.str ⟨#[]⟩))),
 oN 6 (.mov (.con (.bool false)))])
  (.seq (.region [mV 7 0,
 mV 8 1,
 oN 9 (.pcall 118 [(tP 7), (tP 8)]),
 oN 10 (.extract 9 0),
 oN 11 (.extract 9 1),
 oN 12 (.extract 9 2),
 mV 4 10,
 mV 5 11,
 mV 6 12])
  (.ret)),
  [.tmp 4, .tmp 5, .tmp 6]⟩
theorem is_strings_Cut : IsFn Tryz.prog 108 c_strings_Cut := isFn_of [([], []), ([], [2]), ([], [])] (by kernel_rfl)
def c_cats_number : CFn := ⟨31, .seq (.region [oN 4 (.mov (.con (.int .i64 0))),
 oN 5 (.mov (.con (.bool false)))])
  (.seq (.region [mV 9 0,
 oN 10 (.call 119 [(tP 9)]),
 mV 8 10,
 oN 11 (.extract 8 0),
 oN 12 (.extract 8 1),
 mV 6 11,
 mV 7 12])
  (.seq (.region [mV 13 6,
 mV 14 7,
 oN 15 (.isnil .ifc false (tP 14)),
 mV 16 15,
 oG 17 (.mov (tP 6)) 16 true,
 oG 18 (.bin .geq (tP 17) (.con (.int .i64 0))) 16 true,
 oN 19 (.pick (tP 16) (tP 18) (.con (.bool false))),
 mV 20 19,
 oG 21 (.mov (tP 6)) 20 true,
 oG 22 (.mov (tP 1)) 20 true,
 oG 23 (.bin .leq (tP 21) (tP 22)) 20 true,
 oN 24 (.pick (tP 20) (tP 23) (.con (.bool false))),
 mV 25 24,
 oG 26 (.mov (tP 6)) 25 true,
 oG 27 (.pcall 120 [(tP 26)]) 25 true,
 oG 28 (.mov (tP 0)) 25 true,
 oG 29 (.bin .eql (tP 27) (tP 28)) 25 true,
 oN 30 (.pick (tP 25) (tP 29) (.con (.bool false))),
 mV 4 13,
 mV 5 30])
  (.ret))),
  [.tmp 4, .tmp 5]⟩
theorem is_cats_number : IsFn Tryz.prog 109 c_cats_number := isFn_of [([], []), ([], []), ([], [14]), ([], [])] (by kernel_rfl)
def c_strings_SplitSeq : CFn := ⟨8, .seq (.region [oN 4 (.mov (.con (.nilf)))])
  (.seq (.region [mV 5 0,
 mV 6 1,
 oN 7 (.call 121 [(tP 5), (tP 6), (.con (.int .i64 0))]),
 mV 4 7])
  (.ret)),
  [.tmp 4]⟩
theorem is_strings_SplitSeq : IsFn Tryz.prog 110 c_strings_SplitSeq := isFn_of [([], []), ([], []), ([], [])] (by kernel_rfl)
def c_cmp_Compare_string : CFn := ⟨20, .seq (.region [oN 4 (.mov (.con (.int .i64 0)))])
  (.seq (.region [mV 7 0,
 oN 8 (.pcall 122 [(tP 7)]),
 mV 5 8])
  (.seq (.region [mV 9 1,
 oN 10 (.pcall 122 [(tP 9)]),
 mV 6 10])
  (.seq (.seq (.region [mV 11 5])
  (.cond (tP 11) (.seq (.seq (.region [mV 12 6])
  (.cond (tP 12) (.seq (.region [oN 4 (.mov (.con (.int .i64 0)))])
  (.ret)) (.skip)))
  (.seq (.region [oN 4 (.mov (.con (.int .i64 (-1))))])
  (.ret))) (.skip)))
  (.seq (.seq (.region [mV 13 6])
  (.cond (tP 13) (.seq (.region [oN 4 (.mov (.con (.int .i64 1)))])
  (.ret)) (.skip)))
  (.seq (.seq (.region [mV 14 0,
 mV 15 1,
 oN 16 (.bin .lss (tP 14) (tP 15))])
  (.cond (tP 16) (.seq (.region [oN 4 (.mov (.con (.int .i64 (-1))))])
  (.ret)) (.skip)))
  (.seq (.seq (.region [mV 17 0,
 mV 18 1,
 oN 19 (.bin .gtr (tP 17) (tP 18))])
  (.cond (tP 19) (.seq (.region [oN 4 (.mov (.con (.int .i64 1)))])
  (.ret)) (.skip)))
  (.seq (.region [oN 4 (.mov (.con (.int .i64 0)))])
  (.ret)))))))),
  [.tmp 4]⟩
theorem is_cmp_Compare_string : IsFn Tryz.prog 111 c_cmp_Compare_string := isFn_of [([], []), ([], [1]), ([], [1]), ([], []), ([], []), ([], []), ([], []), ([], []), ([], []), ([], []), ([], []), ([], []), ([], []), ([], []), ([], []), ([], []), ([], []), ([], []), ([], []), ([], [])] (by kernel_rfl)
abbrev s_cmp_Or_int_0 (v3 v6 v7 v8 : AV) : List AV := [.any, undefA, .any, v3, undefA, .any, v6, v7, v8, .any, .any, .any, .any, .any, .any, .any, .any, undefA]
abbrev x_cmp_Or_int_0 (v3 : AV) : List AV := [.any, undefA, .any, v3, undefA, .any, .any, .any, .any, .any, .any, .any, .any, .any, .any, .any, .any, undefA]
abbrev l_cmp_Or_int_0 : CC := .kill kl2_15 (.seq (.region [oN 9 (.bin .lss (tP 8) (tP 7))])
  (.seq (.cond (tP 9) (.skip) (.kill [6, 7, 8, 9] (.exit 0)))
  (.seq (.block 1 (.seq (.region [oN 10 (.iaddr 1 none (tP 6) (tP 8)),
 lD 11 10,
 mV 5 11])
  (.seq (.region [mV 12 5,
 mV 13 3,
 oN 14 (.bin .neq (tP 12) (tP 13))])
  (.cond (tP 14) (.seq (.region [mV 15 5,
 mV 2 15])
  (.ret)) (.skip)))))
  (.region [oN 16 (.bin .add (tP 8) (.con (.int .i64 1))),
 mV 8 16]))))
def c_cmp_Or_int : CFn := ⟨18, .seq (.region [oN 2 (.mov (.con (.int .i64 0)))])
  (.seq (.region [oN 3 (.mov (.con (.int .i64 0)))])
  (.seq (.seq (.region [oN 6 (.take (tP 0)),
 oN 7 (.lenl (tP 6)),
 oN 8 (.mov (.con (.int .i64 0)))])
  (.block 0 (.kill kl2_15 (.loop l_cmp_Or_int_0))))
  (.seq (.region [mV 17 3,
 mV 2 17])
  (.ret)))),
  [.tmp 2]⟩
theorem is_cmp_Or_int : IsFn Tryz.prog 112 c_cmp_Or_int := isFn_of [([], []), ([], []), ([], [0]), (kl2_15, []), ([], []), ([6, 7, 8, 9], []), ([], []), ([], []), ([], []), ([], []), ([], []), ([], []), ([], [])] (by kernel_rfl)
abbrev s_slices_Compare_int_int_0 (v0 v1 v9 v10 v11 : AV) : List AV := [v0, v1, undefA, undefA, .any, .any, .any, .any, .any, v9, v10, v11, .any, .any, .any, .any, .any, .any, .any, .any, .any, .any, .any, .any, .any, .any, .any, .any, .any, .any, .any, undefA, undefA, undefA, undefA, undefA]
abbrev x_slices_Compare_int_int_0 (v0 v1 : AV) : List AV := [v0, v1, undefA, undefA, .any, .any, .any, .any, .any, .any, .any, .any, .any, .any, .any, .any, .any, .any, .any, .any, .any, .any, .any, .any, .any, .any, .any, .any, .any, .any, .any, undefA, undefA, undefA, undefA, undefA]
abbrev l_slices_Compare_int_int_0 : CC := .kill kl2_16 (.seq (.region [oN 12 (.bin .lss (tP 11) (tP 10))])
  (.seq (.cond (tP 12) (.skip) (.kill [9, 10, 11, 12] (.exit 0)))
  (.seq (.block 1 (.seq (.region [mV 13 11,
 oN 14 (.iaddr 1 none (tP 9) (tP 11)),
 lD 15 14,
 mV 5 13,
 mV 6 15])
  (.seq (.seq (.region [mV 16 5,
 mV 17 1,
 oN 18 (.lenl (tP 17)),
 oN 19 (.bin .geq (tP 16) (tP 18))])
  (.cond (tP 19) (.seq (.region [oN 4 (.mov (.con (.int .i64 1)))])
  (.ret)) (.skip)))
  (.seq (.region [mV 20 1,
 mV 21 5,
 oN 22 (.iaddr 1 none (tP 20) (tP 21)),
 lD 23 22,
 mV 7 23])
  (.seq (.region [mV 24 6,
 mV 25 7,
 oN 26 (.pcall 114 [(tP 24), (tP 25)]),
 mV 8 26])
  (.seq (.region [mV 27 8,
 oN 28 (.bin .neq (tP 27) (.con (.int .i64 0)))])
  (.cond (tP 28) (.seq (.region [mV 29 8,
 mV 4 29])
  (.ret)) (.skip))))))))
  (.region [oN 30 (.bin .add (tP 11) (.con (.int .i64 1))),
 mV 11 30]))))
def c_slices_Compare_int_int : CFn := ⟨36, .seq (.region [oN 4 (.mov (.con (.int .i64 0)))])
  (.seq (.seq (.region [mV 9 0,
 oN 10 (.lenl (tP 9)),
 oN 11 (.mov (.con (.int .i64 0)))])
  (.block 0 (.kill kl2_16 (.loop l_slices_Compare_int_int_0))))
  (.seq (.seq (.region [oN 31 (.take (tP 0)),
 oN 32 (.lenl (tP 31)),
 oN 33 (.take (tP 1)),
 oN 34 (.lenl (tP 33)),
 oN 35 (.bin .lss (tP 32) (tP 34))])
  (.cond (tP 35) (.seq (.region [oN 4 (.mov (.con (.int .i64 (-1))))])
  (.ret)) (.skip)))
  (.seq (.region [oN 4 (.mov (.con (.int .i64 0)))])
  (.ret)))),
  [.tmp 4]⟩
theorem is_slices_Compare_int_int : IsFn Tryz.prog 113 c_slices_Compare_int_int := isFn_of [([], []), ([], []), (kl2_16, []), ([], []), ([9, 10, 11, 12], []), ([], []), ([], []), ([], []), ([], []), ([], []), ([], [2]), ([], []), ([], []), ([], []), ([], []), ([], [0, 2]), ([], []), ([], []), ([], []), ([], [])] (by kernel_rfl)
def c_cmp_Compare_int : CFn := ⟨20, .seq (.region [oN 4 (.mov (.con (.int .i64 0)))])
  (.seq (.region [mV 7 0,
 oN 8 (.pcall 123 [(tP 7)]),
 mV 5 8])
  (.seq (.region [mV 9 1,
 oN 10 (.pcall 123 [(tP 9)]),
 mV 6 10])
  (.seq (.seq (.region [mV 11 5])
  (.cond (tP 11) (.seq (.seq (.region [mV 12 6])
  (.cond (tP 12) (.seq (.region [oN 4 (.mov (.con (.int .i64 0)))])
  (.ret)) (.skip)))
  (.seq (.region [oN 4 (.mov (.con (.int .i64 (-1))))])
  (.ret))) (.skip)))
  (.seq (.seq (.region [mV 13 6])
  (.cond (tP 13) (.seq (.region [oN 4 (.mov (.con (.int .i64 1)))])
  (.ret)) (.skip)))
  (.seq (.seq (.region [mV 14 0,
 mV 15 1,
 oN 16 (.bin .lss (tP 14) (tP 15))])
  (.cond (tP 16) (.seq (.region [oN 4 (.mov (.con (.int .i64 (-1))))])
  (.ret)) (.skip)))
  (.seq (.seq (.region [mV 17 0,
 mV 18 1,
 oN 19 (.bin .gtr (tP 17) (tP 18))])
  (.cond (tP 19) (.seq (.region [oN 4 (.mov (.con (.int .i64 1)))])
  (.ret)) (.skip)))
  (.seq (.region [oN 4 (.mov (.con (.int .i64 0)))])
  (.ret)))))))),
  [.tmp 4]⟩
theorem is_cmp_Compare_int : IsFn Tryz.prog 114 c_cmp_Compare_int := isFn_of [([], []), ([], [1]), ([], [1]), ([], []), ([], []), ([], []), ([], []), ([], []), ([], []), ([], []), ([], []), ([], []), ([], []), ([], []), ([], []), ([], []), ([], []), ([], []), ([], []), ([], [])] (by kernel_rfl)
abbrev s_slices_IndexFunc_string_string_0 (v0 v1 v7 v8 : AV) : List AV := [v0, v1, undefA, undefA, .any, .any, .any, v7, v8, .any, .any, .any, .any, .any, .any, .any, .any, .any, .any]
abbrev x_slices_IndexFunc_string_string_0  : List AV := [.any, .any, undefA, undefA, .any, .any, .any, .any, .any, .any, .any, .any, .any, .any, .any, .any, .any, .any, .any]
abbrev l_slices_IndexFunc_string_string_0 : CC := .kill kl2_0 (.seq (.region [oN 9 (.bin .lss (tP 8) (tP 7))])
  (.seq (.cond (tP 9) (.skip) (.kill [0, 1, 7, 8, 9] (.exit 0)))
  (.seq (.block 1 (.seq (.region [mV 10 8,
 mV 5 10])
  (.seq (.region [mV 11 1,
 mV 12 0,
 mV 13 5,
 oN 14 (.iaddr 1 none (tP 12) (tP 13)),
 lD 15 14,
 oN 16 (.callv (tP 11) [(tP 15)])])
  (.cond (tP 16) (.seq (.region [mV 17 5,
 mV 4 17])
  (.ret)) (.skip)))))
  (.region [oN 18 (.bin .add (tP 8) (.con (.int .i64 1))),
 mV 8 18]))))
def c_slices_IndexFunc_string_string : CFn := ⟨19, .seq (.region [oN 4 (.mov (.con (.int .i64 0)))])
  (.seq (.seq (.region [mV 6 0,
 oN 7 (.lenl (tP 6)),
 oN 8 (.mov (.con (.int .i64 0)))])
  (.block 0 (.kill kl2_0 (.loop l_slices_IndexFunc_string_string_0))))
  (.seq (.region [oN 4 (.mov (.con (.int .i64 (-1))))])
  (.ret))),
  [.tmp 4]⟩
theorem is_slices_IndexFunc_string_string : IsFn Tryz.prog 115 c_slices_IndexFunc_string_string := isFn_of [([], []), ([], []), (kl2_0, []), ([], []), ([0, 1, 7, 8, 9], []), ([], []), ([], []), ([], []), ([], []), ([], []), ([], []), ([], [])] (by kernel_rfl)
abbrev s_slices_pdqsortCmpFunc_string_0 (v0 v1 v2 v3 v4 v10 v11 : AV) : List AV := [v0, v1, v2, v3, v4, undefA, undefA, undefA, undefA, undefA, v10, v11, .any, .any, .any, .any, .any, .any, .any, .any, .any, .any, .any, .any, .any, .any, .any, .any, .any, .any, .any, .any, .any, .any, .any, .any, .any, .any, .any, .any, .any, .any, .any, .any, .any, .any, .any, .any, .any, .any, .any, .any, .any, .any, .any, .any, .any, .any, .any, .any, .any, .any, .any, .any, .any, .any, .any, .any, .any, .any, .any, .any, .any, .any, .any, .any, .any, .any, .any, .any, .any, .any, .any, .any, .any, .any, .any, .any, .any, .any, .any, .any, .any, .any, .any, .any, .any, .any, .any, .any, .any, .any, .any, .any, .any, .any, .any, .any, .any, .any, .any, .any, .any, .any, .any, .any, .any, .any, .any, .any, .any, .any, .any, .any, .any, .any, .any, .any, .any, .any, .any, .any, .any, .any, .any, .any, .any, .any, .any, .any, .any, .any, .any, .any, .any, .any, .any, .any]
abbrev x_slices_pdqsortCmpFunc_string_1 (v0 v1 v2 v3 v4 v10 v11 : AV) : List AV := [v0, v1, v2, v3, v4, undefA, undefA, undefA, undefA, undefA, v10, v11, .any, .any, .any, .any, .any, .any, .any, .any, .any, .any, .any, .any, .any, .any, .any, .any, .any, .any, .any, .any, .any, .any, .any, .any, .any, .any, .any, .any, .any, .any, .any, .any, .any, .any, .any, .any, .any, .any, .any, .any, .any, .any, .any, .any, .any, .any, .any, .any, .any, .any, .any, .any, .any, .any, .any, .any, .any, .any, .any, .any, .any, .any, .any, .any, .any, .any, .any, .any, .any, .any, .any, .any, .any, .any, .any, .any, .any, .any, .any, .any, .any, .any, .any, .any, .any, .any, .any, .any, .any, .any, .any, .any, .any, .any, .any, .any, .any, .any, .any, .any, .any, .any, .any, .any, .any, .any, .any, .any, .any, .any, .any, .any, .any, .any, .any, .any, .any, .any, .any, .any, .any, .any, .any, .any, .any, .any, .any, .any, .any, .any, .any, .any, .any, .any, .any, .any]
abbrev l_slices_pdqsortCmpFunc_string_0 : CC := .kill kl2_17 (.block 1 (.seq (.region [mV 21 2,
 mV 22 1,
 oN 23 (.bin .sub (tP 21) (tP 22)),
 mV 12 23])
  (.seq (.seq (.region [mV 24 12,
 oN 25 (.bin .leq (tP 24) (.con (.int .i64 12)))])
  (.cond (tP 25) (.seq (.region [oN 26 (.take (tP 0)),
 mV 27 1,
 mV 28 2,
 mV 29 4,
 oN 30 (.call 124 [(tP 26), (tP 27), (tP 28), (tP 29)])])
  (.ret)) (.skip)))
  (.seq (.seq (.region [mV 31 3,
 oN 32 (.bin .eql (tP 31) (.con (.int .i64 0)))])
  (.cond (tP 32) (.seq (.region [oN 33 (.take (tP 0)),
 mV 34 1,
 mV 35 2,
 mV 36 4,
 oN 37 (.call 125 [(tP 33), (tP 34), (tP 35), (tP 36)])])
  (.ret)) (.skip)))
  (.seq (.seq (.region [mV 38 10,
 oN 39 (.un .not (tP 38))])
  (.cond (tP 39) (.seq (.region [mV 40 0,
 mV 41 1,
 mV 42 2,
 mV 43 4,
 oN 44 (.call 126 [(tP 40), (tP 41), (tP 42), (tP 43)])])
  (.region [mV 45 3,
 oN 46 (.bin .sub (tP 45) (.con (.int .i64 1))),
 mV 3 46])) (.skip)))
  (.seq (.region [mV 48 0,
 mV 49 1,
 mV 50 2,
 mV 51 4,
 oN 52 (.call 127 [(tP 48), (tP 49), (tP 50), (tP 51)]),
 mV 47 52,
 oN 53 (.extract 47 0),
 oN 54 (.extract 47 1),
 mV 13 53,
 mV 14 54])
  (.seq (.seq (.region [mV 55 14,
 oN 56 (.bin .eql (tP 55) (.con (.int .i64 2)))])
  (.cond (tP 56) (.seq (.region [mV 57 0,
 mV 58 1,
 mV 59 2,
 mV 60 4,
 oN 61 (.call 128 [(tP 57), (tP 58), (tP 59), (tP 60)])])
  (.seq (.region [mV 62 2,
 oN 63 (.bin .sub (tP 62) (.con (.int .i64 1))),
 mV 64 13,
 mV 65 1,
 oN 66 (.bin .sub (tP 64) (tP 65)),
 oN 67 (.bin .sub (tP 63) (tP 66)),
 mV 13 67])
  (.region [oN 14 (.mov (.con (.int .i64 1)))]))) (.skip)))
  (.seq (.seq (.region [mV 68 10,
 mV 69 68,
 oG 70 (.mov (tP 11)) 69 true,
 oN 71 (.pick (tP 69) (tP 70) (.con (.bool false))),
 mV 72 71,
 oG 73 (.mov (tP 14)) 72 true,
 oG 74 (.bin .eql (tP 73) (.con (.int .i64 1))) 72 true,
 oN 75 (.pick (tP 72) (tP 74) (.con (.bool false)))])
  (.cond (tP 75) (.seq (.region [mV 76 0,
 mV 77 1,
 mV 78 2,
 mV 79 4,
 oN 80 (.call 129 [(tP 76), (tP 77), (tP 78), (tP 79)])])
  (.cond (tP 80) (.ret) (.skip))) (.skip)))
  (.seq (.seq (.region [mV 81 1,
 oN 82 (.bin .gtr (tP 81) (.con (.int .i64 0))),
 mV 83 82,
 oG 84 (.mov (tP 4)) 83 true,
 oG 85 (.mov (tP 0)) 83 true,
 oG 86 (.mov (tP 1)) 83 true,
 oG 87 (.bin .sub (tP 86) (.con (.int .i64 1))) 83 true,
 oG 88 (.iaddr 1 none (tP 85) (tP 87)) 83 true,
 oG 89 (.load none (tP 88)) 83 true,
 oG 90 (.mov (tP 0)) 83 true,
 oG 91 (.mov (tP 13)) 83 true,
 oG 92 (.iaddr 1 none (tP 90) (tP 91)) 83 true,
 oG 93 (.load none (tP 92)) 83 true,
 oG 94 (.callv (tP 84) [(tP 89), (tP 93)]) 83 true,
 oG 95 (.bin .lss (tP 94) (.con (.int .i64 0))) 83 true,
 oG 96 (.un .not (tP 95)) 83 true,
 oN 97 (.pick (tP 83) (tP 96) (.con (.bool false)))])
  (.cond (tP 97) (.seq (.region [mV 98 0,
 mV 99 1,
 mV 100 2,
 mV 101 13,
 mV 102 4,
 oN 103 (.call 130 [(tP 98), (tP 99), (tP 100), (tP 101), (tP 102)]),
 mV 15 103])
  (.seq (.region [mV 104 15,
 mV 1 104])
  (.kill kl2_21 (.exit 1)))) (.skip)))
  (.seq (.region [mV 106 0,
 mV 107 1,
 mV 108 2,
 mV 109 13,
 mV 110 4,
 oN 111 (.call 131 [(tP 106), (tP 107), (tP 108), (tP 109), (tP 110)]),
 mV 105 111,
 oN 112 (.extract 105 0),
 oN 113 (.extract 105 1),
 mV 16 112,
 mV 17 113])
  (.seq (.region [mV 114 17,
 mV 11 114])
  (.seq (.region [mV 115 16,
 mV 116 1,
 oN 117 (.bin .sub (tP 115) (tP 116)),
 mV 118 2,
 mV 119 16,
 oN 120 (.bin .sub (tP 118) (tP 119)),
 mV 18 117,
 mV 19 120])
  (.seq (.region [mV 121 12,
 oN 122 (.bin .quo (tP 121) (.con (.int .i64 8))),
 mV 20 122])
  (.seq (.region [mV 123 18,
 mV 124 19,
 oN 125 (.bin .lss (tP 123) (tP 124))])
  (.cond (tP 125) (.seq (.region [mV 126 18,
 mV 127 20,
 oN 128 (.bin .geq (tP 126) (tP 127)),
 mV 10 128])
  (.seq (.region [mV 129 0,
 mV 130 1,
 mV 131 16,
 mV 132 3,
 mV 133 4,
 oN 134 (.call 116 [(tP 129), (tP 130), (tP 131), (tP 132), (tP 133)])])
  (.region [mV 135 16,
 oN 136 (.bin .add (tP 135) (.con (.int .i64 1))),
 mV 1 136]))) (.seq (.region [mV 137 19,
 mV 138 20,
 oN 139 (.bin .geq (tP 137) (tP 138)),
 mV 10 139])
  (.seq (.region [mV 140 0,
 mV 141 16,
 oN 142 (.bin .add (tP 141) (.con (.int .i64 1))),
 mV 143 2,
 mV 144 3,
 mV 145 4,
 oN 146 (.call 116 [(tP 140), (tP 142), (tP 143), (tP 144), (tP 145)])])
  (.region [mV 147 16,
 mV 2 147]))))))))))))))))))
def c_slices_pdqsortCmpFunc_string : CFn := ⟨148, .seq (.region [oN 10 (.mov (.con (.bool true)))])
  (.seq (.region [oN 11 (.mov (.con (.bool true)))])
  (.block 0 (.kill kl2_17 (.loop l_slices_pdqsortCmpFunc_string_0)))),
  []⟩
theorem is_slices_pdqsortCmpFunc_string : IsFn Tryz.prog 116 c_slices_pdqsortCmpFunc_string := isFn_of [([], []), ([], []), (kl2_17, []), ([], []), ([], []), ([], [0]), ([], []), ([], []), ([], [0]), ([], []), ([], []), ([], []), ([], []), ([], []), ([], []), ([], []), ([], []), ([], []), ([], []), ([], []), ([], []), ([], []), ([], []), ([], []), (kl2_21, []), ([], []), ([], []), ([], []), ([], []), ([], []), ([], []), ([], []), ([], []), ([], []), ([], []), ([], [])] (by kernel_rfl)
def c_math_bits_Len : CFn := ⟨8, .seq (.region [oN 2 (.mov (.con (.int .i64 0)))])
  (.seq (.cond (.con (.bool false)) (.seq (.region [mV 3 0,
 oN 4 (.cInt .u32 (tP 3)),
 oN 5 (.pcall 132 [(tP 4)]),
 mV 2 5])
  (.ret)) (.skip))
  (.seq (.region [mV 6 0,
 oN 7 (.pcall 133 [(tP 6)]),
 mV 2 7])
  (.ret))),
  [.tmp 2]⟩
theorem is_math_bits_Len : IsFn Tryz.prog 117 c_math_bits_Len := isFn_of [([], []), ([], [2]), ([], []), ([], [1]), ([], [])] (by kernel_rfl)
def c_internal_stringslite_Cut : CFn := ⟨23, .seq (.region [oN 4 (.mov (.con (.str ⟨#[]⟩))),
 oN 5 (.mov (.con (.str ⟨#[]⟩))),
 oN 6 (.mov (.con (.bool false)))])
  (.seq (.seq (.region [mV 8 0,
 mV 9 1,
 oN 10 (.pcall 134 [(tP 8), (tP 9)]),
 mV 7 10])
  (.seq (.region [mV 11 7,
 oN 12 (.bin .geq (tP 11) (.con (.int .i64 0)))])
  (.cond (tP 12) (.seq (.region [mV 13 0,
 mV 14 7,
 oN 15 (.slice none (tP 13) none (some (tP 14)) none),
 mV 16 0,
 mV 17 7,
 mV 18 1,
 oN 19 (.lens (tP 18)),
 oN 20 (.bin .add (tP 17) (tP 19)),
 oN 21 (.slice none (tP 16) (some (tP 20)) none none),
 mV 4 15,
 mV 5 21,
 oN 6 (.mov (.con (.bool true)))])
  (.ret)) (.skip))))
  (.seq (.region [mV 22 0,
 mV 4 22,
 oN 5 (.mov (.con (.str ⟨#[]⟩))),
 oN 6 (.mov (.con (.bool false)))])
  (.ret))),
  [.tmp 4, .tmp 5, .tmp 6]⟩
theorem is_internal_stringslite_Cut : IsFn Tryz.prog 118 c_internal_stringslite_Cut := isFn_of [([], []), ([], [2]), ([], []), ([], []), ([], []), ([], []), ([], [])] (by kernel_rfl)
theorem ok_strconv_Atoi : OkDef Tryz.prog 119 (.prim (atoiP 197)) := atoi_ok (eb := 5) (⟨Tryz.f119, Tryz.func119, by kernel_rfl, by kernel_rfl⟩ : Callable Tryz.prog 119) (fun s hs v h w => Tryz.strconv_Atoi_ok s hs v h w) (fun s hs h w0 w hw hb => by obtain ⟨tp, q, hv⟩ := errvar_ok (P := Tryz.prog) (hw.2 2 (by decide)) hb (n := "strconv.ErrSyntax") (by kernel_rfl); refine (Tryz.strconv_Atoi_syntax_var s hs h tp q w hv).mono ?_; rintro e w' ⟨N, rfl, _, _, hb'⟩; exact ⟨N, rfl, hb'⟩) (fun s hs h w0 w hw hb => by obtain ⟨tp, q, hv⟩ := errvar_ok (P := Tryz.prog) (hw.2 3 (by decide)) hb (n := "strconv.ErrRange") (by kernel_rfl); refine (Tryz.strconv_Atoi_range_var s hs h tp q w hv).mono ?_; rintro e w' ⟨N, rfl, _, _, hb'⟩; exact ⟨N, rfl, hb'⟩)
theorem ok_strconv_Itoa : OkDef Tryz.prog 120 (.prim itoaP) := itoa_ok (⟨Tryz.f120, Tryz.func120, by kernel_rfl, by kernel_rfl⟩ : Callable Tryz.prog 120) tab_ok (fun n h0 h1 w ht => Tryz.strconv_Itoa n h0 h1 w ht)
def c_strings_splitSeq : CFn := ⟨8, .seq (.region [oN 3 (.box (tP 0)),
 oN 4 (.box (tP 1)),
 oN 5 (.box (tP 2)),
 oN 6 (.mov (.con (.nilf)))])
  (.seq (.region [oN 7 (.mkfn (.func 138) [] [(tP 4), (tP 3), (tP 5)]),
 mV 6 7])
  (.ret)),
  [.tmp 6]⟩
theorem is_strings_splitSeq : IsFn Tryz.prog 121 c_strings_splitSeq := isFn_of [([], []), ([], []), ([], [])] (by kernel_rfl)
def c_cmp_isNaN_string : CFn := ⟨6, .seq (.region [oN 2 (.mov (.con (.bool false)))])
  (.seq (.region [mV 3 0,
 mV 4 0,
 oN 5 (.bin .neq (tP 3) (tP 4)),
 mV 2 5])
  (.ret)),
  [.tmp 2]⟩
theorem is_cmp_isNaN_string : IsFn Tryz.prog 122 c_cmp_isNaN_string := isFn_of [([], []), ([], []), ([], [])] (by kernel_rfl)
def c_cmp_isNaN_int : CFn := ⟨6, .seq (.region [oN 2 (.mov (.con (.bool false)))])
  (.seq (.region [mV 3 0,
 mV 4 0,
 oN 5 (.bin .neq (tP 3) (tP 4)),
 mV 2 5])
  (.ret)),
  [.tmp 2]⟩
theorem is_cmp_isNaN_int : IsFn Tryz.prog 123 c_cmp_isNaN_int := isFn_of [([], []), ([], []), ([], [])] (by kernel_rfl)
abbrev s_slices_insertionSortCmpFunc_string_0 (v0 v1 v2 v3 v8 : AV) : List AV := [v0, v1, v2, v3, undefA, undefA, undefA, undefA, v8, .any, .any, .any, .any, .any, .any, .any, .any, .any, .any, .any, .any, .any, .any, .any, .any, .any, .any, .any, .any, .any, .any, .any, .any, .any, .any, .any, .any, .any, .any, .any, .any, .any, .any, .any, .any, .any, .any, .any, .any, .any, .any, .any, .any]
abbrev s_slices_insertionSortCmpFunc_string_1 (v0 v1 v2 v3 v8 v9 : AV) : List AV := [v0, v1, v2, v3, undefA, undefA, undefA, undefA, v8, v9, .any, .any, .any, .any, .any, .any, .any, .any, .any, .any, .any, .any, .any, .any, .any, .any, .any, .any, .any, .any, .any, .any, .any, .any, .any, .any, .any, .any, .any, .any, .any, .any, .any, .any, .any, .any, .any, .any, .any, .any, .any, .any, .any]
abbrev x_slices_insertionSortCmpFunc_string_0  : List AV := [.any, .any, .any, .any, undefA, undefA, undefA, undefA, .any, .any, .any, .any, .any, .any, .any, .any, .any, .any, .any, .any, .any, .any, .any, .any, .any, .any, .any, .any, .any, .any, .any, .any, .any, .any, .any, .any, .any, .any, .any, .any, .any, .any, .any, .any, .any, .any, .any, .any, .any, .any, .any, .any, .any]
abbrev x_slices_insertionSortCmpFunc_string_2 (v0 v1 v2 v3 v8 : AV) : List AV := [v0, v1, v2, v3, undefA, undefA, undefA, undefA, v8, .any, .any, .any, .any, .any, .any, .any, .any, .any, .any, .any, .any, .any, .any, .any, .any, .any, .any, .any, .any, .any, .any, .any, .any, .any, .any, .any, .any, .any, .any, .any, .any, .any, .any, .any, .any, .any, .any, .any, .any, .any, .any, .any, .any]
abbrev l_slices_insertionSortCmpFunc_string_1 : CC := .kill kl2_18 (.seq (.seq (.region [mV 18 9,
 mV 19 1,
 oN 20 (.bin .gtr (tP 18) (tP 19)),
 mV 21 20,
 oG 22 (.mov (tP 3)) 21 true,
 oG 23 (.mov (tP 0)) 21 true,
 oG 24 (.mov (tP 9)) 21 true,
 oG 25 (.iaddr 1 none (tP 23) (tP 24)) 21 true,
 oG 26 (.load none (tP 25)) 21 true,
 oG 27 (.mov (tP 0)) 21 true,
 oG 28 (.mov (tP 9)) 21 true,
 oG 29 (.bin .sub (tP 28) (.con (.int .i64 1))) 21 true,
 oG 30 (.iaddr 1 none (tP 27) (tP 29)) 21 true,
 oG 31 (.load none (tP 30)) 21 true,
 oG 32 (.callv (tP 22) [(tP 26), (tP 31)]) 21 true,
 oG 33 (.bin .lss (tP 32) (.con (.int .i64 0))) 21 true,
 oN 34 (.pick (tP 21) (tP 33) (.con (.bool false)))])
  (.cond (tP 34) (.skip) (.kill kl2_22 (.exit 2))))
  (.seq (.block 3 (.region [mV 37 0,
 mV 38 9,
 mV 39 0,
 mV 40 9,
 oN 41 (.bin .sub (tP 40) (.con (.int .i64 1))),
 mV 42 0,
 mV 43 9,
 oN 44 (.bin .sub (tP 43) (.con (.int .i64 1))),
 oN 45 (.iaddr 1 none (tP 42) (tP 44)),
 lD 46 45,
 mV 47 0,
 mV 48 9,
 oN 49 (.iaddr 1 none (tP 47) (tP 48)),
 lD 50 49,
 oN 51 (.iaddr 1 none (tP 37) (tP 38)),
 ⟨none, .store 1 (tP 51) (tP 46), none⟩,
 oN 52 (.iaddr 1 none (tP 39) (tP 41)),
 ⟨none, .store 1 (tP 52) (tP 50), none⟩]))
  (.region [mV 35 9,
 oN 36 (.bin .sub (tP 35) (.con (.int .i64 1))),
 mV 9 36])))
abbrev l_slices_insertionSortCmpFunc_string_0 : CC := .kill kl2_19 (.seq (.seq (.region [mV 12 8,
 mV 13 2,
 oN 14 (.bin .lss (tP 12) (tP 13))])
  (.cond (tP 14) (.skip) (.kill kl2_23 (.exit 0))))
  (.seq (.block 1 (.seq (.region [mV 17 8,
 mV 9 17])
  (.block 2 (.kill kl2_18 (.loop l_slices_insertionSortCmpFunc_string_1)))))
  (.region [mV 15 8,
 oN 16 (.bin .add (tP 15) (.con (.int .i64 1))),
 mV 8 16])))
def c_slices_insertionSortCmpFunc_string : CFn := ⟨53, .seq (.region [mV 10 1,
 oN 11 (.bin .add (tP 10) (.con (.int .i64 1))),
 mV 8 11])
  (.block 0 (.kill kl2_19 (.loop l_slices_insertionSortCmpFunc_string_0))),
  []⟩
theorem is_slices_insertionSortCmpFunc_string : IsFn Tryz.prog 124 c_slices_insertionSortCmpFunc_string := isFn_of [([], []), (kl2_19, []), ([], []), (kl2_23, []), ([], []), (kl2_18, []), ([], []), (kl2_22, []), ([], []), ([], []), ([], [])] (by kernel_rfl)
def c_math_bits_Len32 : CFn := ⟨19, .seq (.region [oN 2 (.mov (.con (.int .i64 0)))])
  (.seq (.seq (.region [mV 3 0,
 oN 4 (.bin .geq (tP 3) (.con (.int .u32 65536)))])
  (.cond (tP 4) (.seq (.region [mV 5 0,
 oN 6 (.bin .shr (tP 5) (.con (.int .u64 16))),
 mV 0 6])
  (.region [oN 2 (.mov (.con (.int .i64 16)))])) (.skip)))
  (.seq (.seq (.region [mV 7 0,
 oN 8 (.bin .geq (tP 7) (.con (.int .u32 256)))])
  (.cond (tP 8) (.seq (.region [mV 9 0,
 oN 10 (.bin .shr (tP 9) (.con (.int .u64 8))),
 mV 0 10])
  (.region [mV 11 2,
 oN 12 (.bin .add (tP 11) (.con (.int .i64 8))),
 mV 2 12])) (.skip)))
  (.seq (.region [mV 13 2,
 mV 14 0,
 oN 15 (.cInt .u8 (tP 14)),
 oN 16 (.idxs (.con (.str ⟨#[0, 1, 2, 2, 3, 3, 3, 3, 4, 4, 4, 4, 4, 4, 4, 4, 5, 5, 5, 5, 5, 5, 5, 5, 5, 5, 5, 5, 5, 5, 5, 5, 6, 6, 6, 6, 6, 6, 6, 6, 6, 6, 6, 6, 6, 6, 6, 6, 6, 6, 6, 6, 6, 6, 6, 6, 6, 6, 6, 6, 6, 6, 6, 6, 7, 7, 7, 7, 7, 7, 7, 7, 7, 7, 7, 7, 7, 7, 7, 7, 7, 7, 7, 7, 7, 7, 7, 7, 7, 7, 7, 7, 7, 7, 7, 7, 7, 7, 7, 7, 7, 7, 7, 7, 7, 7, 7, 7, 7, 7, 7, 7, 7, 7, 7, 7, 7, 7, 7, 7, 7, 7, 7, 7, 7, 7, 7, 7, 8, 8, 8, 8, 8, 8, 8, 8, 8, 8, 8, 8, 8, 8, 8, 8, 8, 8, 8, 8, 8, 8, 8, 8, 8, 8, 8, 8, 8, 8, 8, 8, 8, 8, 8, 8, 8, 8, 8, 8, 8, 8, 8, 8, 8, 8, 8, 8, 8, 8, 8, 8, 8, 8, 8, 8, 8, 8, 8, 8, 8, 8, 8, 8, 8, 8, 8, 8, 8, 8, 8, 8, 8, 8, 8, 8, 8, 8, 8, 8, 8, 8, 8, 8, 8, 8, 8, 8, 8, 8, 8, 8, 8, 8, 8, 8, 8, 8, 8, 8, 8, 8, 8, 8, 8, 8, 8, 8, 8, 8, 8, 8, 8, 8, 8, 8, 8, 8, 8, 8, 8, 8, 8, 8, 8, 8, 8, 8]⟩)) (tP 15)),
 oN 17 (.cInt .i64 (tP 16)),
 oN 18 (.bin .add (tP 13) (tP 17)),
 mV 2 18])
  (.ret)))),
  [.tmp 2]⟩
theorem is_math_bits_Len32 : IsFn Tryz.prog 132 c_math_bits_Len32 := isFn_of [([], []), ([], []), ([], []), ([], []), ([], []), ([], []), ([], []), ([], []), ([], [])] (by kernel_rfl)
def c_math_bits_Len64 : CFn := ⟨25, .seq (.region [oN 2 (.mov (.con (.int .i64 0)))])
  (.seq (.seq (.region [mV 3 0,
 oN 4 (.bin .geq (tP 3) (.con (.int .u64 4294967296)))])
  (.cond (tP 4) (.seq (.region [mV 5 0,
 oN 6 (.bin .shr (tP 5) (.con (.int .u64 32))),
 mV 0 6])
  (.region [oN 2 (.mov (.con (.int .i64 32)))])) (.skip)))
  (.seq (.seq (.region [mV 7 0,
 oN 8 (.bin .geq (tP 7) (.con (.int .u64 65536)))])
  (.cond (tP 8) (.seq (.region [mV 9 0,
 oN 10 (.bin .shr (tP 9) (.con (.int .u64 16))),
 mV 0 10])
  (.region [mV 11 2,
 oN 12 (.bin .add (tP 11) (.con (.int .i64 16))),
 mV 2 12])) (.skip)))
  (.seq (.seq (.region [mV 13 0,
 oN 14 (.bin .geq (tP 13) (.con (.int .u64 256)))])
  (.cond (tP 14) (.seq (.region [mV 15 0,
 oN 16 (.bin .shr (tP 15) (.con (.int .u64 8))),
 mV 0 16])
  (.region [mV 17 2,
 oN 18 (.bin .add (tP 17) (.con (.int .i64 8))),
 mV 2 18])) (.skip)))
  (.seq (.region [mV 19 2,
 mV 20 0,
 oN 21 (.cInt .u8 (tP 20)),
 oN 22 (.idxs (.con (.str ⟨#[0, 1, 2, 2, 3, 3, 3, 3, 4, 4, 4, 4, 4, 4, 4, 4, 5, 5, 5, 5, 5, 5, 5, 5, 5, 5, 5, 5, 5, 5, 5, 5, 6, 6, 6, 6, 6, 6, 6, 6, 6, 6, 6, 6, 6, 6, 6, 6, 6, 6, 6, 6, 6, 6, 6, 6, 6, 6, 6, 6, 6, 6, 6, 6, 7, 7, 7, 7, 7, 7, 7, 7, 7, 7, 7, 7, 7, 7, 7, 7, 7, 7, 7, 7, 7, 7, 7, 7, 7, 7, 7, 7, 7, 7, 7, 7, 7, 7, 7, 7, 7, 7, 7, 7, 7, 7, 7, 7, 7, 7, 7, 7, 7, 7, 7, 7, 7, 7, 7, 7, 7, 7, 7, 7, 7, 7, 7, 7, 8, 8, 8, 8, 8, 8, 8, 8, 8, 8, 8, 8, 8, 8, 8, 8, 8, 8, 8, 8, 8, 8, 8, 8, 8, 8, 8, 8, 8, 8, 8, 8, 8, 8, 8, 8, 8, 8, 8, 8, 8, 8, 8, 8, 8, 8, 8, 8, 8, 8, 8, 8, 8, 8, 8, 8, 8, 8, 8, 8, 8, 8, 8, 8, 8, 8, 8, 8, 8, 8, 8, 8, 8, 8, 8, 8, 8, 8, 8, 8, 8, 8, 8, 8, 8, 8, 8, 8, 8, 8, 8, 8, 8, 8, 8, 8, 8, 8, 8, 8, 8, 8, 8, 8, 8, 8, 8, 8, 8, 8, 8, 8, 8, 8, 8, 8, 8, 8, 8, 8, 8, 8, 8, 8, 8, 8, 8, 8]⟩)) (tP 21)),
 oN 23 (.cInt .i64 (tP 22)),
 oN 24 (.bin .add (tP 19) (tP 23)),
 mV 2 24])
  (.ret))))),
  [.tmp 2]⟩
theorem is_math_bits_Len64 : IsFn Tryz.prog 133 c_math_bits_Len64 := isFn_of [([], []), ([], []), ([], []), ([], []), ([], []), ([], []), ([], []), ([], []), ([], []), ([], []), ([], []), ([], [])] (by kernel_rfl)
theorem ok_internal_stringslite_Index : OkDef Tryz.prog 134 (.prim index1P) := index1_ok (⟨Tryz.f134, Tryz.func134, by kernel_rfl, by kernel_rfl⟩ : Callable Tryz.prog 134) (fun s c w => Tryz.stringslite_Index_one s c w)
theorem ok_strings_splitSeq_1 : OkDef Tryz.prog 138 (.split) := split_ok
end Go.Proofs.YtlcflpanellbfaaGreatDoor.F
